/- The law on extreme points: the walk. -/
import Derived.Test.YtodeicbcacggdaaB11
import Derived.Test.YtodeicbcacggdaaB7
set_option linter.unusedVariables false
set_option linter.unusedSimpArgs false
namespace Go.Proofs.Ytodeicbcacggdaa
open Go Go.Ideal Go.Pl Go.Sort

def dotP (p q : Pt) : Int := p.1 * q.1 + p.2 * q.2
theorem dotP_lin (p q : Pt) : dotP p q = lin q.1 q.2 p := by unfold dotP lin; grind
theorem sm_mul {x y : Int} (hx : sm1 x) (hy : sm1 y) : -10000000000 ≤ x * y ∧ x * y ≤ 10000000000 := by
  have := mulb (A := 100000) (B := 100000) (by unfold sm1 at hx; omega) (by unfold sm1 at hy; omega)
  omega
/-- Numbers whose products have room. -/
def Sm9 (p : Pt) : Prop := (-1000000000 ≤ p.1 ∧ p.1 ≤ 1000000000) ∧ (-1000000000 ≤ p.2 ∧ p.2 ≤ 1000000000)
theorem Sm.nine {p : Pt} (h : Sm p) : Sm9 p := by unfold Sm sm1 at h; unfold Sm9; omega
theorem Sm.way {p q : Pt} (h : Sm p) (k : Sm q) : Sm9 (wayP p q) := by unfold Sm sm1 at h k; unfold Sm9 wayP; simp only []; omega
def g_impl_Point_dot : List (Nat × PSpec) := []
theorem gok_impl_Point_dot : GOK Try.prog g_impl_Point_dot := gok0
def h_impl_Point_dot : List (Nat × HSpec) := []
theorem hok_impl_Point_dot : HOK Try.prog h_impl_Point_dot := hok0
theorem c_impl_Point_dot (p : Pt) (q : Pt) (hp : Sm9 p) (hq : Sm9 q) : ICall Try.prog 137 [encP p, encP q] (.num .i64 (dotP p q)) := by
  refine icall_V (G := g_impl_Point_dot) (H := []) [] tabOK mixed gok_impl_Point_dot hok_impl_Point_dot Try.func137 rfl Try.ntmps137 Try.results137 rfl (by kernel_rfl) fun F hN hlen => ?_
  have h1 := mulb hp.1 hq.1
  have h2 := mulb hp.2 hq.2
  have w1 : IntKind.i64.wrap (p.1 * q.1) = p.1 * q.1 := wr (by omega) (by omega)
  have w2 : IntKind.i64.wrap (p.2 * q.2) = p.2 * q.2 := wr (by omega) (by omega)
  have w3 : IntKind.i64.wrap (p.1 * q.1 + p.2 * q.2) = p.1 * q.1 + p.2 * q.2 := wr (by omega) (by omega)
  simp only [V_seq, V_ret, V_region, W_nil, W_cons, effOp2, KN_seq, KXr_nil, QE, effOp, effPure, effNew, effBox, skipE, pureV, binV, partV, loadV, faddrV, solid, IV.cells, ofC, strip, lkT, lkH, ISt.app, opI, gO, gB, allB, gval, wrapG, dstOK, setD, mentTm, mentHp, IV.ment, IV.mentL, oneI, clean, enumT, Gives, Ideal.Fin, conv, conv0, IBlk.shape, Op.operands, reduceIte, reduceCtorEq, cond_true, Bool.or_false, Bool.and_true, Nat.reduceAdd, Nat.reduceLT, Nat.reduceLeDiff, Nat.reduceEqDiff, Nat.reduceBEq, Nat.add_zero, Nat.zero_add, and_self, implies_true, List.nil_append, List.cons_append, List.append_nil, List.all_cons, List.all_nil, Option.map_some, List.getD_cons_zero, List.getD_cons_succ, List.length_cons, List.length_nil, List.take_succ_cons, List.take_zero, List.take_nil, List.drop_succ_cons, List.drop_zero, tab3, tab30, hN, encP, w1, w2, w3, dotP]
def sp_impl_Point_dot : PSpec := ⟨fun xs => match xs with | [.agg [.num .i64 p1, .num .i64 p2], .agg [.num .i64 q1, .num .i64 q2]] => ((fun (p : Pt) (q : Pt) => Sm9 p) (p1, p2) (q1, q2)) ∧ ((fun (p : Pt) (q : Pt) => Sm9 q) (p1, p2) (q1, q2)) | _ => False, fun xs => match xs with | [.agg [.num _ p1, .num _ p2], .agg [.num _ q1, .num _ q2]] => (fun (p : Pt) (q : Pt) => .num .i64 (dotP p q)) (p1, p2) (q1, q2) | _ => .junk, false⟩
theorem gk_impl_Point_dot : ∀ args, sp_impl_Point_dot.pre args → ICall Try.prog 137 args (sp_impl_Point_dot.val args) := by
  intro args h
  unfold sp_impl_Point_dot at h ⊢; simp only at h ⊢; split at h
  · obtain ⟨h0, h1⟩ := h
    simp only [toPs_enc] at *
    exact c_impl_Point_dot (_, _) (_, _) h0 h1
  · exact h.elim
theorem en_impl_Point_dot : Enters Try.prog 137 := enters_of Try.func137 (by kernel_rfl) rfl


/-- The first of the farthest among the first n. -/
def farI (l : List Pt) (d : Pt) : Nat → Nat
  | 0 => 0
  | n + 1 => if dotP (pAt l (farI l d n)) d < dotP (pAt l n) d then n else farI l d n
theorem farI_lt (l : List Pt) (d : Pt) : ∀ n, 0 < n → farI l d n < n
  | 1, _ => by simp [farI]
  | n + 2, _ => by
    have := farI_lt l d (n + 1) (by omega)
    rw [farI]; split <;> omega
theorem farI_le (l : List Pt) (d : Pt) (n : Nat) : farI l d n ≤ n := by
  rcases Nat.eq_zero_or_pos n with rfl | h
  · simp [farI]
  · exact Nat.le_of_lt (farI_lt l d n h)
theorem farI_max (l : List Pt) (d : Pt) : ∀ n i, i < n → dotP (pAt l i) d ≤ dotP (pAt l (farI l d n)) d
  | n + 1, i, hi => by
    rw [farI]
    split
    · rename_i h
      rcases Nat.lt_or_ge i n with h1 | h1
      · have := farI_max l d n i h1; omega
      · rw [show i = n by omega]; exact Int.le_refl _
    · rename_i h
      rcases Nat.lt_or_ge i n with h1 | h1
      · exact farI_max l d n i h1
      · rw [show i = n by omega]; omega

def g_impl_extreme : List (Nat × PSpec) := [(137, sp_impl_Point_dot)]
theorem gok_impl_extreme : GOK Try.prog g_impl_extreme := gok_cons gk_impl_Point_dot en_impl_Point_dot (gok0)
theorem lk_impl_extreme_impl_Point_dot : lkG g_impl_extreme 137 = sp_impl_Point_dot := rfl
def h_impl_extreme : List (Nat × HSpec) := []
theorem hok_impl_extreme : HOK Try.prog h_impl_extreme := hok0
theorem c_impl_extreme (l : List Pt) (d : Pt) (h0 : 0 < l.length) (hm : SmL l) (hd : Sm d) (hsz : l.length ≤ 1000000) : ICall Try.prog 93 [.sl 2 (encPs l), encP d] (.num .i64 (farI l d l.length)) := by
  refine icall_V (G := g_impl_extreme) (H := []) [(5, [(2, 3), (2, 4), (2, 5), (2, 6), (2, 7), (0, 8), (1, 8), (3, 8), (4, 8), (5, 8)])] tabOK mixed gok_impl_extreme hok_impl_extreme Try.func93 rfl Try.ntmps93 Try.results93 rfl (by kernel_rfl) fun F hN hlen => ?_
  have el := len_encPs l
  have hd9 := hd.nine
  simp only [V_seq, V_block, V_region, W_nil, W_cons, effOp2, KN_seq, effOp, effPure, effNew, effBox, skipE, pureV, lenV, solid, IV.cells, ofC, strip, lkT, ISt.app, opI, gO, gB, allB, gval, wrapG, dstOK, setD, mentTm, mentHp, IV.ment, IV.mentL, oneI, enumT, Op.operands, Call.operands, List.append_toArray, reduceIte, reduceCtorEq, cond_true, Bool.or_false, Bool.and_true, Nat.reduceLT, Nat.reduceEqDiff, Nat.zero_add, ne_eq, not_false_eq_true, true_and, and_self, implies_true, List.nil_append, List.cons_append, List.append_nil, List.all_cons, List.all_nil, tab23, hN, encP, el]
  refine V_loop (α := Nat) ⟨tabOK, mixed, gok_impl_extreme, hok_impl_extreme⟩ (by kernel_rfl) (fun i => i ≤ l.length) (fun i => ⟨[(10, .num .i64 i), (9, .num .i64 l.length), (8, .sl 2 (encPs l)), (5, .num .i64 (farI l d i)), (3, .ptr 3 0), (0, .sl 2 (encPs l))], [(3, some (.box 30 [.num .i64 d.1, .num .i64 d.2]))]⟩) (fun i => l.length - i) 0 id (Nat.zero_le _) (by simp [SLe, SLe0, convTm, convHp, convB, conv, conv0, convL, lkT, lkH, clean, farI]) ?_
  intro i hi
  simp only [V_seq, V_region, V_cond, W_nil, W_cons, effOp2, KN_seq, asB, effOp, effPure, pureV, binV, strip, lkT, ISt.app, opI, gO, gB, allB, gval, wrapG, dstOK, setD, Op.operands, reduceIte, reduceCtorEq, Nat.reduceLT, Nat.reduceEqDiff, true_and, and_self, implies_true, List.nil_append, List.cons_append, hN]
  refine brW_some (fun h => ?_) (fun h => ?_)
  · have hi' : i < l.length := by simpa using h
    have g0 := getD_encPs hi'
    have hfl : farI l d i < l.length := Nat.lt_of_le_of_lt (farI_le l d i) hi'
    have g1 := getD_encPs hfl
    have hw := wr_succ hi' (by rw [maxLen_eq]; omega)
    have s1 := (hm.at i).nine
    have s2 := (hm.at (farI l d i)).nine
    simp only [V_seq, V_skip, V_block, V_region, V_draw, V_cond, drawW, pairsOf, W_nil, W_cons, effOp2, WI_nil, WI_cons, KN_seq, dynOK, indB, farB, freshB, heapy, asB, effOp, effPure, effNew, effAlloc, effStore, effCall, giveUp, hasAll, skipE, pureV, storeV, binV, partV, eltV, loadV, iaddrV, over, solid, IV.cells, strip, lkT, lkH, ISt.app, opI, gO, gB, allB, gval, wrapG, dstOK, setD, mentTm, mentHp, IV.ment, IV.mentL, oneI, lendV, lendP, lent, lentP, idsV, idsL, flat, clean, callArgs, callFn, allLent, Op.operands, Call.operands, List.append_toArray, reduceIte, reduceCtorEq, cond_true, cond_false, Bool.or_false, Bool.and_true, Bool.not_true, Bool.not_false, Nat.reduceAdd, Nat.reduceLT, Nat.reduceLeDiff, Nat.reduceEqDiff, Nat.reduceBEq, Nat.zero_add, ne_eq, not_false_eq_true, true_and, and_true, and_false, and_self, implies_true, forall_const, List.map_cons, List.map_nil, List.nil_append, List.cons_append, List.append_nil, List.all_cons, List.all_nil, List.getD_cons_zero, List.getD_cons_succ, List.length_cons, List.length_nil, List.take_succ_cons, List.take_zero, List.take_nil, List.drop_succ_cons, List.drop_zero, List.drop_nil, ex_clo, or_self, tab23, tab30, hN, pe, Int.toNat_natCast, lk_impl_extreme_impl_Point_dot, sp_impl_Point_dot, el, g0, g1, s1, s2, hd9]
    repeat refine And.intro (by first | omega | (simp; done) | (simp; omega)) ?_
    refine brW_some (fun h => ?_) (fun h => ?_)
    · have hf : farI l d (i + 1) = i := by rw [farI, if_pos (by simpa using h)]
      simp only [V_region, W_nil, W_cons, effOp2, KN_seq, KN_block, KN_back, effOp, effPure, pureV, binV, ofC, strip, lkT, ISt.app, opI, gO, gB, allB, gval, wrapG, dstOK, setD, Op.operands, reduceIte, reduceCtorEq, Nat.reduceLT, Nat.reduceEqDiff, true_and, and_self, implies_true, List.nil_append, List.cons_append, hN, hw]
      exact ⟨i + 1, id, by simp only []; omega, by simp only []; omega, by simp [SLe, SLe0, convTm, convHp, convB, conv, conv0, convL, lkT, lkH, clean, hf]⟩
    · have hf : farI l d (i + 1) = farI l d i := by rw [farI, if_neg (by simpa using h)]
      simp only [V_skip, V_region, W_nil, W_cons, effOp2, KN_seq, KN_block, KN_back, effOp, effPure, pureV, binV, ofC, strip, lkT, ISt.app, opI, gO, gB, allB, gval, wrapG, dstOK, setD, Op.operands, reduceIte, reduceCtorEq, Nat.reduceLT, Nat.reduceEqDiff, true_and, and_self, implies_true, List.nil_append, List.cons_append, hN, hw]
      exact ⟨i + 1, id, by simp only []; omega, by simp only []; omega, by simp [SLe, SLe0, convTm, convHp, convB, conv, conv0, convL, lkT, lkH, clean, hf]⟩
  · have hie : i = l.length := by simp at h; omega
    subst hie
    simp only [V_seq, V_ret, V_exit, V_region, W_nil, W_cons, effOp2, KN_seq, KXr_nil, KXe_nil, KXe_seq, KXe_block, KXe_back, QE, effOp, effPure, pureV, strip, lkT, lkH, ISt.app, opI, gO, gB, allB, gval, wrapG, dstOK, setD, clean, Gives, Ideal.Fin, conv, conv0, Op.operands, reduceIte, reduceCtorEq, Nat.reduceLT, Nat.reduceEqDiff, and_self, implies_true, List.nil_append, List.cons_append, hN]
def sp_impl_extreme : PSpec := ⟨fun xs => match xs with | [.sl 2 les, .agg [.num .i64 d1, .num .i64 d2]] => isPs les ∧ ((fun (l : List Pt) (d : Pt) => 0 < l.length) (toPs les) (d1, d2)) ∧ ((fun (l : List Pt) (d : Pt) => SmL l) (toPs les) (d1, d2)) ∧ ((fun (l : List Pt) (d : Pt) => Sm d) (toPs les) (d1, d2)) ∧ ((fun (l : List Pt) (d : Pt) => l.length ≤ 1000000) (toPs les) (d1, d2)) | _ => False, fun xs => match xs with | [.sl _ les, .agg [.num _ d1, .num _ d2]] => (fun (l : List Pt) (d : Pt) => .num .i64 (farI l d l.length)) (toPs les) (d1, d2) | _ => .junk, false⟩
theorem gk_impl_extreme : ∀ args, sp_impl_extreme.pre args → ICall Try.prog 93 args (sp_impl_extreme.val args) := by
  intro args h
  unfold sp_impl_extreme at h ⊢; simp only at h ⊢; split at h
  · obtain ⟨h0, h1, h2, h3, h4⟩ := h
    obtain ⟨l0, rfl⟩ := isP_ex h0
    simp only [toPs_enc] at *
    exact c_impl_extreme _ (_, _) h1 h2 h3 h4
  · exact h.elim
theorem en_impl_extreme : Enters Try.prog 93 := enters_of Try.func93 (by kernel_rfl) rfl


def g_spec_extreme : List (Nat × PSpec) := []
theorem gok_spec_extreme : GOK Try.prog g_spec_extreme := gok0
def h_spec_extreme : List (Nat × HSpec) := []
theorem hok_spec_extreme : HOK Try.prog h_spec_extreme := hok0
theorem c_spec_extreme (l : List Pt) (d : Pt) (h0 : 0 < l.length) (hm : SmL l) (hd : Sm d) (hsz : l.length ≤ 1000000) : ICall Try.prog 95 [.sl 2 (encPs l), encP d] (.num .i64 (farI l d l.length)) := by
  refine icall_V (G := g_spec_extreme) (H := []) [] tabOK mixed gok_spec_extreme hok_spec_extreme Try.func95 rfl Try.ntmps95 Try.results95 rfl (by kernel_rfl) fun F hN hlen => ?_
  have el := len_encPs l
  simp only [V_seq, V_block, V_region, W_nil, W_cons, effOp2, KN_seq, effOp, effPure, effNew, effBox, skipE, pureV, solid, IV.cells, ofC, strip, lkT, ISt.app, opI, gO, gB, allB, gval, wrapG, dstOK, setD, mentTm, mentHp, IV.ment, IV.mentL, oneI, enumT, Op.operands, reduceIte, reduceCtorEq, cond_true, Bool.or_false, Bool.and_true, Nat.reduceLT, Nat.zero_add, true_and, and_self, implies_true, List.nil_append, List.cons_append, List.append_nil, List.all_cons, List.all_nil, hN, encP]
  refine V_loop (α := Nat) ⟨tabOK, mixed, gok_spec_extreme, hok_spec_extreme⟩ (by kernel_rfl) (fun i => i ≤ l.length) (fun i => ⟨[(6, .num .i64 i), (5, .num .i64 (farI l d i)), (3, .ptr 3 0), (0, .sl 2 (encPs l))], [(3, some (.box 30 [.num .i64 d.1, .num .i64 d.2]))]⟩) (fun i => l.length - i) 0 id (Nat.zero_le _) (by simp [SLe, SLe0, convTm, convHp, convB, conv, conv0, convL, lkT, lkH, clean, farI]) ?_
  intro i hi
  simp only [V_seq, V_region, V_cond, W_nil, W_cons, effOp2, KN_seq, asB, effOp, effPure, pureV, binV, lenV, strip, lkT, ISt.app, opI, gO, gB, allB, gval, wrapG, dstOK, setD, Op.operands, Call.operands, List.append_toArray, reduceIte, reduceCtorEq, Nat.reduceLT, Nat.reduceEqDiff, ne_eq, not_false_eq_true, true_and, and_self, implies_true, List.nil_append, List.cons_append, tab23, hN, el]
  refine brW_some (fun h => ?_) (fun h => ?_)
  · have hi' : i < l.length := by simpa using h
    have g0 := getD_encPs hi'
    have hfl : farI l d i < l.length := Nat.lt_of_le_of_lt (farI_le l d i) hi'
    have g1 := getD_encPs hfl
    have hw := wr_succ hi' (by rw [maxLen_eq]; omega)
    have s1 := hm.at i
    have s2 := hm.at (farI l d i)
    have m1 := sm_mul s1.1 hd.1
    have m2 := sm_mul s1.2 hd.2
    have m3 := sm_mul s2.1 hd.1
    have m4 := sm_mul s2.2 hd.2
    have w1 : IntKind.i64.wrap ((pAt l i).1 * d.1) = (pAt l i).1 * d.1 := wr (by omega) (by omega)
    have w2 : IntKind.i64.wrap ((pAt l i).2 * d.2) = (pAt l i).2 * d.2 := wr (by omega) (by omega)
    have w3 : IntKind.i64.wrap ((pAt l (farI l d i)).1 * d.1) = (pAt l (farI l d i)).1 * d.1 := wr (by omega) (by omega)
    have w4 : IntKind.i64.wrap ((pAt l (farI l d i)).2 * d.2) = (pAt l (farI l d i)).2 * d.2 := wr (by omega) (by omega)
    have w5 : IntKind.i64.wrap ((pAt l i).1 * d.1 + (pAt l i).2 * d.2) = dotP (pAt l i) d := wr (by omega) (by omega)
    have w6 : IntKind.i64.wrap ((pAt l (farI l d i)).1 * d.1 + (pAt l (farI l d i)).2 * d.2) = dotP (pAt l (farI l d i)) d := wr (by omega) (by omega)
    simp only [V_seq, V_skip, V_block, V_draw, V_cond, drawW, pairsOf, WD_nil, WD_cons, KN_seq, asB, effOp, effPure, pureV, binV, partV, eltV, loadV, faddrV, iaddrV, strip, lkT, lkH, ISt.app, opI, gO, gB, allB, gval, wrapG, dstOK, setD, IBlk.shape, Op.operands, reduceIte, reduceCtorEq, Nat.reduceAdd, Nat.reduceLT, Nat.reduceLeDiff, Nat.reduceEqDiff, Nat.add_zero, Nat.zero_add, ne_eq, not_false_eq_true, true_and, and_true, and_false, and_self, implies_true, forall_const, List.nil_append, List.cons_append, Option.map_some, List.getD_cons_zero, List.getD_cons_succ, List.length_cons, List.length_nil, List.take_succ_cons, List.take_zero, List.take_nil, List.drop_succ_cons, List.drop_zero, tab3, tab23, tab30, hN, Int.toNat_natCast, el, g0, g1, w1, w2, w3, w4, w5, w6]
    repeat refine And.intro (by first | omega | (simp; done) | (simp; omega)) ?_
    refine brW_some (fun h => ?_) (fun h => ?_)
    · have hf : farI l d (i + 1) = i := by rw [farI, if_pos (by simpa using h)]
      simp only [V_region, W_nil, W_cons, effOp2, KN_seq, KN_block, KN_back, effOp, effPure, pureV, binV, ofC, strip, lkT, ISt.app, opI, gO, gB, allB, gval, wrapG, dstOK, setD, Op.operands, reduceIte, reduceCtorEq, Nat.reduceLT, Nat.reduceEqDiff, true_and, and_self, implies_true, List.nil_append, List.cons_append, hN, hw]
      exact ⟨i + 1, id, by simp only []; omega, by simp only []; omega, by simp [SLe, SLe0, convTm, convHp, convB, conv, conv0, convL, lkT, lkH, clean, hf]⟩
    · have hf : farI l d (i + 1) = farI l d i := by rw [farI, if_neg (by simpa using h)]
      simp only [V_skip, V_region, W_nil, W_cons, effOp2, KN_seq, KN_block, KN_back, effOp, effPure, pureV, binV, ofC, strip, lkT, ISt.app, opI, gO, gB, allB, gval, wrapG, dstOK, setD, Op.operands, reduceIte, reduceCtorEq, Nat.reduceLT, Nat.reduceEqDiff, true_and, and_self, implies_true, List.nil_append, List.cons_append, hN, hw]
      exact ⟨i + 1, id, by simp only []; omega, by simp only []; omega, by simp [SLe, SLe0, convTm, convHp, convB, conv, conv0, convL, lkT, lkH, clean, hf]⟩
  · have hie : i = l.length := by simp at h; omega
    subst hie
    simp only [V_seq, V_ret, V_exit, V_region, W_nil, W_cons, effOp2, KN_seq, KXr_nil, KXe_nil, KXe_seq, KXe_block, KXe_back, QE, effOp, effPure, pureV, strip, lkT, lkH, ISt.app, opI, gO, gB, allB, gval, wrapG, dstOK, setD, clean, Gives, Ideal.Fin, conv, conv0, Op.operands, reduceIte, reduceCtorEq, Nat.reduceLT, Nat.reduceEqDiff, and_self, implies_true, List.nil_append, List.cons_append, hN]
def sp_spec_extreme : PSpec := ⟨fun xs => match xs with | [.sl 2 les, .agg [.num .i64 d1, .num .i64 d2]] => isPs les ∧ ((fun (l : List Pt) (d : Pt) => 0 < l.length) (toPs les) (d1, d2)) ∧ ((fun (l : List Pt) (d : Pt) => SmL l) (toPs les) (d1, d2)) ∧ ((fun (l : List Pt) (d : Pt) => Sm d) (toPs les) (d1, d2)) ∧ ((fun (l : List Pt) (d : Pt) => l.length ≤ 1000000) (toPs les) (d1, d2)) | _ => False, fun xs => match xs with | [.sl _ les, .agg [.num _ d1, .num _ d2]] => (fun (l : List Pt) (d : Pt) => .num .i64 (farI l d l.length)) (toPs les) (d1, d2) | _ => .junk, false⟩
theorem gk_spec_extreme : ∀ args, sp_spec_extreme.pre args → ICall Try.prog 95 args (sp_spec_extreme.val args) := by
  intro args h
  unfold sp_spec_extreme at h ⊢; simp only at h ⊢; split at h
  · obtain ⟨h0, h1, h2, h3, h4⟩ := h
    obtain ⟨l0, rfl⟩ := isP_ex h0
    simp only [toPs_enc] at *
    exact c_spec_extreme _ (_, _) h1 h2 h3 h4
  · exact h.elim
theorem en_spec_extreme : Enters Try.prog 95 := enters_of Try.func95 (by kernel_rfl) rfl


/-- Where the farthest point stands; nowhere when something is not in order. -/
def extI (l : List Pt) (d : Pt) : Int := if okPs l = true ∧ 0 < l.length ∧ okP d = true then (farI l d l.length : Int) else -1

def g_impl_Extreme : List (Nat × PSpec) := [(59, sp_impl_listOk), (92, sp_impl_Point_valid), (93, sp_impl_extreme)]
theorem gok_impl_Extreme : GOK Try.prog g_impl_Extreme := gok_cons gk_impl_listOk en_impl_listOk (gok_cons gk_impl_Point_valid en_impl_Point_valid (gok_cons gk_impl_extreme en_impl_extreme (gok0)))
theorem lk_impl_Extreme_impl_listOk : lkG g_impl_Extreme 59 = sp_impl_listOk := rfl
theorem lk_impl_Extreme_impl_Point_valid : lkG g_impl_Extreme 92 = sp_impl_Point_valid := rfl
theorem lk_impl_Extreme_impl_extreme : lkG g_impl_Extreme 93 = sp_impl_extreme := rfl
def h_impl_Extreme : List (Nat × HSpec) := []
theorem hok_impl_Extreme : HOK Try.prog h_impl_Extreme := hok0
theorem c_impl_Extreme (l : List Pt) (d : Pt)  : ICall Try.prog 45 [.sl 2 (encPs l), encP d] (.num .i64 (extI l d)) := by
  refine icall_V (G := g_impl_Extreme) (H := []) [] tabOK mixed gok_impl_Extreme hok_impl_Extreme Try.func45 rfl Try.ntmps45 Try.results45 rfl (by kernel_rfl) fun F hN hlen => ?_
  have el := len_encPs l
  cases h1 : okPs l with
  | false =>
    have hx : extI l d = -1 := by rw [extI, if_neg (by simp [h1])]
    simp only [V_seq, V_ret, V_region, V_cond, brW_true, W_nil, W_cons, effOp2, KN_seq, KXr_nil, KXr_seq, QE, asB, effOp, effPure, effPick, effNew, effBox, effCall, giveUp, hasAll, skipE, pureV, pickV, binV, partV, loadV, lenV, solid, IV.cells, ofC, strip, lkT, lkH, ISt.app, opI, gO, gB, allB, gval, wrapG, dstOK, setD, mentTm, mentHp, IV.ment, IV.mentL, oneI, lendV, lendP, lent, lentP, idsV, idsL, lkHS, flat, clean, callArgs, callFn, allLent, enumT, Gives, Ideal.Fin, conv, conv0, Op.operands, Call.operands, List.append_toArray, reduceIte, reduceCtorEq, cond_true, Bool.or_false, Bool.or_true, Bool.and_true, Bool.not_true, Bool.not_false, Nat.reduceAdd, Nat.reduceLT, Nat.reduceLeDiff, Nat.reduceEqDiff, Nat.zero_add, ne_eq, not_false_eq_true, and_true, and_false, and_self, false_implies, implies_true, List.map_cons, List.map_nil, List.nil_append, List.cons_append, List.append_nil, List.all_cons, List.all_nil, Option.bind_some, List.getElem?_cons_zero, List.getElem?_cons_succ, List.getD_cons_zero, List.length_cons, List.length_nil, List.take_succ_cons, List.take_nil, List.drop_zero, ex_clo, btf, or_self, Bool.true_eq_false, Bool.false_eq_true, tab23, tab30, hN, pe, encP, isPs_enc, toPs_enc, lk_impl_Extreme_impl_listOk, lk_impl_Extreme_impl_Point_valid, sp_impl_listOk, sp_impl_Point_valid, h1, hx, el]
  | true =>
    have hn := okPs_len h1
    rcases Nat.eq_zero_or_pos l.length with hz | hz
    · have hx : extI l d = -1 := by rw [extI, if_neg (by omega)]
      have d1 : (((l.length : Nat) : Int) == 0) = true := by simp [hz]
      simp only [V_seq, V_ret, V_region, V_cond, brW_true, W_nil, W_cons, effOp2, KN_seq, KXr_nil, KXr_seq, QE, asB, effOp, effPure, effPick, effNew, effBox, effCall, giveUp, hasAll, skipE, pureV, pickV, binV, partV, loadV, lenV, solid, IV.cells, ofC, strip, lkT, lkH, ISt.app, opI, gO, gB, allB, gval, wrapG, dstOK, setD, mentTm, mentHp, IV.ment, IV.mentL, oneI, lendV, lendP, lent, lentP, idsV, idsL, lkHS, flat, clean, callArgs, callFn, allLent, enumT, Gives, Ideal.Fin, conv, conv0, Op.operands, Call.operands, List.append_toArray, reduceIte, reduceCtorEq, cond_true, cond_false, Bool.or_false, Bool.or_true, Bool.and_true, Bool.not_true, Bool.not_false, Nat.reduceAdd, Nat.reduceLT, Nat.reduceLeDiff, Nat.reduceEqDiff, Nat.zero_add, ne_eq, not_false_eq_true, beq_self_eq_true, and_true, and_false, and_self, false_implies, implies_true, List.map_cons, List.map_nil, List.nil_append, List.cons_append, List.append_nil, List.all_cons, List.all_nil, Option.bind_some, List.getElem?_cons_zero, List.getElem?_cons_succ, List.getD_cons_zero, List.length_cons, List.length_nil, List.take_succ_cons, List.take_nil, List.drop_zero, ex_clo, btf, or_self, Bool.true_eq_false, Bool.false_eq_true, tab23, tab30, hN, pe, encP, isPs_enc, toPs_enc, lk_impl_Extreme_impl_listOk, lk_impl_Extreme_impl_Point_valid, sp_impl_listOk, sp_impl_Point_valid, h1, hx, el, d1]
    · have d1 : (((l.length : Nat) : Int) == 0) = false := by simp; intro e; subst e; simp at hz
      cases h2 : okP d with
      | false =>
        have hx : extI l d = -1 := by rw [extI, if_neg (by simp [h2])]
        simp only [V_seq, V_ret, V_region, V_cond, brW_true, W_nil, W_cons, effOp2, KN_seq, KXr_nil, KXr_seq, QE, asB, effOp, effPure, effPick, effNew, effBox, effCall, giveUp, hasAll, skipE, pureV, pickV, binV, partV, loadV, lenV, solid, IV.cells, ofC, strip, lkT, lkH, ISt.app, opI, gO, gB, allB, gval, wrapG, dstOK, setD, mentTm, mentHp, IV.ment, IV.mentL, oneI, lendV, lendP, lent, lentP, idsV, idsL, lkHS, flat, clean, callArgs, callFn, allLent, enumT, Gives, Ideal.Fin, conv, conv0, Op.operands, Call.operands, List.append_toArray, reduceIte, reduceCtorEq, cond_true, cond_false, Bool.or_false, Bool.and_true, Bool.not_true, Bool.not_false, Nat.reduceAdd, Nat.reduceLT, Nat.reduceLeDiff, Nat.reduceEqDiff, Nat.zero_add, ne_eq, not_false_eq_true, beq_self_eq_true, and_false, and_self, implies_true, List.map_cons, List.map_nil, List.nil_append, List.cons_append, List.append_nil, List.all_cons, List.all_nil, Option.bind_some, List.getElem?_cons_zero, List.getElem?_cons_succ, List.getD_cons_zero, List.length_cons, List.length_nil, List.take_succ_cons, List.take_nil, List.drop_zero, ex_clo, or_self, Bool.false_eq_true, tab23, tab30, hN, pe, encP, isPs_enc, toPs_enc, lk_impl_Extreme_impl_listOk, lk_impl_Extreme_impl_Point_valid, sp_impl_listOk, sp_impl_Point_valid, h1, h2, hx, el, d1]
      | true =>
        have hx : extI l d = (farI l d l.length : Int) := by rw [extI, if_pos ⟨h1, hz, h2⟩]
        have hm := okPs_sm h1
        have hd := okP_sm h2
        have hl : l.length ≤ 1000000 := by omega
        simp only [V_seq, V_skip, V_ret, V_region, V_cond, brW_false, W_nil, W_cons, effOp2, KN_seq, KXr_nil, QE, asB, effOp, effPure, effPick, effNew, effBox, effCall, giveUp, hasAll, skipE, pureV, pickV, binV, partV, loadV, lenV, solid, IV.cells, ofC, strip, lkT, lkH, ISt.app, opI, gO, gB, allB, gval, wrapG, dstOK, setD, mentTm, mentHp, IV.ment, IV.mentL, oneI, lendV, lendP, lent, lentP, idsV, idsL, lkHS, flat, clean, callArgs, callFn, allLent, enumT, Gives, Ideal.Fin, conv, conv0, Op.operands, Call.operands, List.append_toArray, reduceIte, reduceCtorEq, cond_true, cond_false, Bool.or_false, Bool.and_true, Bool.not_true, Nat.reduceAdd, Nat.reduceLT, Nat.reduceLeDiff, Nat.reduceEqDiff, Nat.zero_add, ne_eq, not_false_eq_true, beq_self_eq_true, and_false, and_self, implies_true, List.map_cons, List.map_nil, List.nil_append, List.cons_append, List.append_nil, List.all_cons, List.all_nil, Option.bind_some, List.getElem?_cons_zero, List.getElem?_cons_succ, List.getD_cons_zero, List.length_cons, List.length_nil, List.take_succ_cons, List.take_nil, List.drop_zero, ex_clo, or_self, Bool.false_eq_true, tab23, tab30, hN, pe, encP, isPs_enc, toPs_enc, lk_impl_Extreme_impl_listOk, lk_impl_Extreme_impl_Point_valid, lk_impl_Extreme_impl_extreme, sp_impl_listOk, sp_impl_Point_valid, sp_impl_extreme, h1, h2, hx, el, d1, hz, hm, hd, hl]
def sp_impl_Extreme : PSpec := ⟨fun xs => match xs with | [.sl 2 les, .agg [.num .i64 d1, .num .i64 d2]] => isPs les | _ => False, fun xs => match xs with | [.sl _ les, .agg [.num _ d1, .num _ d2]] => (fun (l : List Pt) (d : Pt) => .num .i64 (extI l d)) (toPs les) (d1, d2) | _ => .junk, false⟩
theorem gk_impl_Extreme : ∀ args, sp_impl_Extreme.pre args → ICall Try.prog 45 args (sp_impl_Extreme.val args) := by
  intro args h
  unfold sp_impl_Extreme at h ⊢; simp only at h ⊢; split at h
  · have h0 := h
    obtain ⟨l0, rfl⟩ := isP_ex h0
    simp only [toPs_enc] at *
    exact c_impl_Extreme _ (_, _) 
  · exact h.elim
theorem en_impl_Extreme : Enters Try.prog 45 := enters_of Try.func45 (by kernel_rfl) rfl

def g_spec_Extreme : List (Nat × PSpec) := [(69, sp_spec_validPoints), (94, sp_spec_validPoint), (95, sp_spec_extreme)]
theorem gok_spec_Extreme : GOK Try.prog g_spec_Extreme := gok_cons gk_spec_validPoints en_spec_validPoints (gok_cons gk_spec_validPoint en_spec_validPoint (gok_cons gk_spec_extreme en_spec_extreme (gok0)))
theorem lk_spec_Extreme_spec_validPoints : lkG g_spec_Extreme 69 = sp_spec_validPoints := rfl
theorem lk_spec_Extreme_spec_validPoint : lkG g_spec_Extreme 94 = sp_spec_validPoint := rfl
theorem lk_spec_Extreme_spec_extreme : lkG g_spec_Extreme 95 = sp_spec_extreme := rfl
def h_spec_Extreme : List (Nat × HSpec) := []
theorem hok_spec_Extreme : HOK Try.prog h_spec_Extreme := hok0
theorem c_spec_Extreme (l : List Pt) (d : Pt)  : ICall Try.prog 46 [.sl 2 (encPs l), encP d] (.num .i64 (extI l d)) := by
  refine icall_V (G := g_spec_Extreme) (H := []) [] tabOK mixed gok_spec_Extreme hok_spec_Extreme Try.func46 rfl Try.ntmps46 Try.results46 rfl (by kernel_rfl) fun F hN hlen => ?_
  have el := len_encPs l
  cases h1 : okPs l with
  | false =>
    have hx : extI l d = -1 := by rw [extI, if_neg (by simp [h1])]
    simp only [V_seq, V_ret, V_region, V_cond, brW_true, W_nil, W_cons, effOp2, KN_seq, KXr_nil, KXr_seq, QE, asB, effOp, effPure, effPick, effNew, effBox, effCall, giveUp, hasAll, skipE, pureV, pickV, binV, partV, loadV, lenV, solid, IV.cells, ofC, strip, lkT, lkH, ISt.app, opI, gO, gB, allB, gval, wrapG, dstOK, setD, mentTm, mentHp, IV.ment, IV.mentL, oneI, lendV, lendP, lent, lentP, idsV, idsL, lkHS, flat, clean, callArgs, callFn, allLent, enumT, Gives, Ideal.Fin, conv, conv0, Op.operands, Call.operands, List.append_toArray, reduceIte, reduceCtorEq, cond_true, Bool.or_false, Bool.or_true, Bool.and_true, Bool.not_true, Bool.not_false, Nat.reduceAdd, Nat.reduceLT, Nat.reduceLeDiff, Nat.reduceEqDiff, Nat.zero_add, ne_eq, not_false_eq_true, and_true, and_false, and_self, false_implies, implies_true, List.map_cons, List.map_nil, List.nil_append, List.cons_append, List.append_nil, List.all_cons, List.all_nil, Option.bind_some, List.getElem?_cons_zero, List.getElem?_cons_succ, List.getD_cons_zero, List.length_cons, List.length_nil, List.take_succ_cons, List.take_nil, List.drop_zero, ex_clo, btf, or_self, Bool.true_eq_false, Bool.false_eq_true, tab23, tab30, hN, pe, encP, isPs_enc, toPs_enc, lk_spec_Extreme_spec_validPoints, lk_spec_Extreme_spec_validPoint, sp_spec_validPoints, sp_spec_validPoint, h1, hx, el]
  | true =>
    have hn := okPs_len h1
    rcases Nat.eq_zero_or_pos l.length with hz | hz
    · have hx : extI l d = -1 := by rw [extI, if_neg (by omega)]
      have d1 : (((l.length : Nat) : Int) == 0) = true := by simp [hz]
      simp only [V_seq, V_ret, V_region, V_cond, brW_true, W_nil, W_cons, effOp2, KN_seq, KXr_nil, KXr_seq, QE, asB, effOp, effPure, effPick, effNew, effBox, effCall, giveUp, hasAll, skipE, pureV, pickV, binV, partV, loadV, lenV, solid, IV.cells, ofC, strip, lkT, lkH, ISt.app, opI, gO, gB, allB, gval, wrapG, dstOK, setD, mentTm, mentHp, IV.ment, IV.mentL, oneI, lendV, lendP, lent, lentP, idsV, idsL, lkHS, flat, clean, callArgs, callFn, allLent, enumT, Gives, Ideal.Fin, conv, conv0, Op.operands, Call.operands, List.append_toArray, reduceIte, reduceCtorEq, cond_true, cond_false, Bool.or_false, Bool.or_true, Bool.and_true, Bool.not_true, Bool.not_false, Nat.reduceAdd, Nat.reduceLT, Nat.reduceLeDiff, Nat.reduceEqDiff, Nat.zero_add, ne_eq, not_false_eq_true, beq_self_eq_true, and_true, and_false, and_self, false_implies, implies_true, List.map_cons, List.map_nil, List.nil_append, List.cons_append, List.append_nil, List.all_cons, List.all_nil, Option.bind_some, List.getElem?_cons_zero, List.getElem?_cons_succ, List.getD_cons_zero, List.length_cons, List.length_nil, List.take_succ_cons, List.take_nil, List.drop_zero, ex_clo, btf, or_self, Bool.true_eq_false, Bool.false_eq_true, tab23, tab30, hN, pe, encP, isPs_enc, toPs_enc, lk_spec_Extreme_spec_validPoints, lk_spec_Extreme_spec_validPoint, sp_spec_validPoints, sp_spec_validPoint, h1, hx, el, d1]
    · have d1 : (((l.length : Nat) : Int) == 0) = false := by simp; intro e; subst e; simp at hz
      cases h2 : okP d with
      | false =>
        have hx : extI l d = -1 := by rw [extI, if_neg (by simp [h2])]
        simp only [V_seq, V_ret, V_region, V_cond, brW_true, W_nil, W_cons, effOp2, KN_seq, KXr_nil, KXr_seq, QE, asB, effOp, effPure, effPick, effNew, effBox, effCall, giveUp, hasAll, skipE, pureV, pickV, binV, partV, loadV, lenV, solid, IV.cells, ofC, strip, lkT, lkH, ISt.app, opI, gO, gB, allB, gval, wrapG, dstOK, setD, mentTm, mentHp, IV.ment, IV.mentL, oneI, lendV, lendP, lent, lentP, idsV, idsL, lkHS, flat, clean, callArgs, callFn, allLent, enumT, Gives, Ideal.Fin, conv, conv0, Op.operands, Call.operands, List.append_toArray, reduceIte, reduceCtorEq, cond_true, cond_false, Bool.or_false, Bool.and_true, Bool.not_true, Bool.not_false, Nat.reduceAdd, Nat.reduceLT, Nat.reduceLeDiff, Nat.reduceEqDiff, Nat.zero_add, ne_eq, not_false_eq_true, beq_self_eq_true, and_false, and_self, implies_true, List.map_cons, List.map_nil, List.nil_append, List.cons_append, List.append_nil, List.all_cons, List.all_nil, Option.bind_some, List.getElem?_cons_zero, List.getElem?_cons_succ, List.getD_cons_zero, List.length_cons, List.length_nil, List.take_succ_cons, List.take_nil, List.drop_zero, ex_clo, or_self, Bool.false_eq_true, tab23, tab30, hN, pe, encP, isPs_enc, toPs_enc, lk_spec_Extreme_spec_validPoints, lk_spec_Extreme_spec_validPoint, sp_spec_validPoints, sp_spec_validPoint, h1, h2, hx, el, d1]
      | true =>
        have hx : extI l d = (farI l d l.length : Int) := by rw [extI, if_pos ⟨h1, hz, h2⟩]
        have hm := okPs_sm h1
        have hd := okP_sm h2
        have hl : l.length ≤ 1000000 := by omega
        simp only [V_seq, V_skip, V_ret, V_region, V_cond, brW_false, W_nil, W_cons, effOp2, KN_seq, KXr_nil, QE, asB, effOp, effPure, effPick, effNew, effBox, effCall, giveUp, hasAll, skipE, pureV, pickV, binV, partV, loadV, lenV, solid, IV.cells, ofC, strip, lkT, lkH, ISt.app, opI, gO, gB, allB, gval, wrapG, dstOK, setD, mentTm, mentHp, IV.ment, IV.mentL, oneI, lendV, lendP, lent, lentP, idsV, idsL, lkHS, flat, clean, callArgs, callFn, allLent, enumT, Gives, Ideal.Fin, conv, conv0, Op.operands, Call.operands, List.append_toArray, reduceIte, reduceCtorEq, cond_true, cond_false, Bool.or_false, Bool.and_true, Bool.not_true, Nat.reduceAdd, Nat.reduceLT, Nat.reduceLeDiff, Nat.reduceEqDiff, Nat.zero_add, ne_eq, not_false_eq_true, beq_self_eq_true, and_false, and_self, implies_true, List.map_cons, List.map_nil, List.nil_append, List.cons_append, List.append_nil, List.all_cons, List.all_nil, Option.bind_some, List.getElem?_cons_zero, List.getElem?_cons_succ, List.getD_cons_zero, List.length_cons, List.length_nil, List.take_succ_cons, List.take_nil, List.drop_zero, ex_clo, or_self, Bool.false_eq_true, tab23, tab30, hN, pe, encP, isPs_enc, toPs_enc, lk_spec_Extreme_spec_validPoints, lk_spec_Extreme_spec_validPoint, lk_spec_Extreme_spec_extreme, sp_spec_validPoints, sp_spec_validPoint, sp_spec_extreme, h1, h2, hx, el, d1, hz, hm, hd, hl]
def sp_spec_Extreme : PSpec := ⟨fun xs => match xs with | [.sl 2 les, .agg [.num .i64 d1, .num .i64 d2]] => isPs les | _ => False, fun xs => match xs with | [.sl _ les, .agg [.num _ d1, .num _ d2]] => (fun (l : List Pt) (d : Pt) => .num .i64 (extI l d)) (toPs les) (d1, d2) | _ => .junk, false⟩
theorem gk_spec_Extreme : ∀ args, sp_spec_Extreme.pre args → ICall Try.prog 46 args (sp_spec_Extreme.val args) := by
  intro args h
  unfold sp_spec_Extreme at h ⊢; simp only at h ⊢; split at h
  · have h0 := h
    obtain ⟨l0, rfl⟩ := isP_ex h0
    simp only [toPs_enc] at *
    exact c_spec_Extreme _ (_, _) 
  · exact h.elim
theorem en_spec_Extreme : Enters Try.prog 46 := enters_of Try.func46 (by kernel_rfl) rfl


def g_spec_reader_one : List (Nat × PSpec) := []
theorem gok_spec_reader_one : GOK Try.prog g_spec_reader_one := gok0
def h_spec_reader_one : List (Nat × HSpec) := [(107, hs_spec_reader_pick)]
theorem hok_spec_reader_one : HOK Try.prog h_spec_reader_one := hok_cons hk_spec_reader_pick en_spec_reader_pick (hok0)
theorem lh_spec_reader_one_spec_reader_pick : lkHS h_spec_reader_one 107 = some hs_spec_reader_pick := rfl
theorem c_spec_reader_one (b : List Int) (p : Nat) (L : List Int) (full : Bool) (hb : BytesOK b) (hp : p ≤ 900000) (h0 : 0 < L.length) (h1 : L.length ≤ 1000) : HCall Try.prog 113 [.ptr 1000 0, .ref 1001 0 L.length full] (sm ([(1000, rdr b p), (1001, .arr 1 3 (encI L))])) (.num .i64 (L.getD (pickI b p L.length).toNat 0)) (sm ([(1000, rdr b (p + 1)), (1001, .arr 1 3 (encI L))])) := by
  refine hcall_V (G := g_spec_reader_one) (H := h_spec_reader_one) [] tabOK mixed gok_spec_reader_one hok_spec_reader_one Try.func113 rfl Try.ntmps113 Try.results113 rfl (by kernel_rfl) fun F hN hlen => ?_
  simp only [sm]
  have eL : (encI L).length = L.length := len_encI L
  have pk := pick_nonneg hb (show p ≤ 1000000000 by omega) L.length
  have hlt := pk.2.1 (by omega)
  obtain ⟨k, hk⟩ : ∃ k : Nat, pickI b p L.length = k := ⟨(pickI b p L.length).toNat, by omega⟩
  have g := getD_encI (l := L) (i := k) (by omega)
  have hpl : p ≤ 1000000 := by omega
  have hnn : ((L.length : Nat) : Int) ≤ 1000000 := by omega
  simp only [V_seq, V_ret, V_region, W_nil, W_cons, effOp2, KN_seq, KXr_nil, QE, effOp, effPure, Option.isSome_some, skipE, pureV, eltV, loadV, iaddrV, lenV, ofC, strip, lkT, lkH, ISt.app, opI, gO, gB, allB, gval, wrapG, dstOK, setD, mentTm, mentHp, IV.ment, IV.mentL, idsV, idsL, clean, callArgs, callFn, enumT, conv, conv0, convL, IBlk.shape, Op.operands, Call.operands, List.append_toArray, reduceIte, reduceCtorEq, cond_true, cond_false, Bool.or_false, Bool.or_true, Bool.and_true, Nat.reduceAdd, Nat.reduceSub, Nat.reduceMul, Nat.reduceLT, Nat.reduceLeDiff, Nat.reduceEqDiff, Nat.reduceBEq, Nat.zero_add, ne_eq, not_false_eq_true, beq_self_eq_true, true_and, and_true, and_false, and_self, false_implies, implies_true, forall_const, List.map_cons, List.map_nil, List.nil_append, List.cons_append, List.append_nil, List.all_nil, Option.map_some, List.getD_cons_zero, ex_clo, Bool.true_eq_false, Bool.false_eq_true, tab3, tab25, hN, Int.toNat_natCast, isBy_enc, toBy_enc, FinH, resA, resV, SLe, SLe0, convTm, convHp, convB, sm, effH, mkHC0, mkHC1, lendM, lentM, lentI, allHere, addIds, idsB, flatIds, reach, posn, renV, renL, renB, renH, numB, subHp, fwd, bk, bwd, nones, keyOK, noSl, noSlL, flatBs, List.contains, List.elem, Option.isSome_some, List.nodup_nil, List.nodup_cons, List.not_mem_nil, List.mem_cons, or_false, Option.getD_some, lh_spec_reader_one_spec_reader_pick, hs_spec_reader_pick, rdr, hb, hpl, hnn, eL, hk, g]
  repeat refine And.intro (by first | omega | (simp; done) | (simp; omega)) ?_
  exact ⟨id, by simp [convL, conv, conv0, clean]⟩
def hs_spec_reader_one : HSpec := ⟨[false, false], fun xs hp => match xs, hp with | [.ptr 1000 0, .ref 1001 0 n full], [(1000, .box ty [.sl 1 es, .num .i64 pz]), (1001, .arr 1 ty2 ls)] => (isBy es) ∧ (isIs ls) ∧ (ty = 110) ∧ (pz = (pz.toNat : Int)) ∧ (n = ls.length) ∧ (ty2 = 3) ∧ ((fun (b : List Int) (p : Nat) (L : List Int) (full : Bool) => BytesOK b) (toIs es) pz.toNat (toIs ls) full) ∧ ((fun (b : List Int) (p : Nat) (L : List Int) (full : Bool) => p ≤ 900000) (toIs es) pz.toNat (toIs ls) full) ∧ ((fun (b : List Int) (p : Nat) (L : List Int) (full : Bool) => 0 < L.length) (toIs es) pz.toNat (toIs ls) full) ∧ ((fun (b : List Int) (p : Nat) (L : List Int) (full : Bool) => L.length ≤ 1000) (toIs es) pz.toNat (toIs ls) full) | _, _ => False, fun xs hp => match xs, hp with | [.ptr 1000 0, .ref 1001 0 n full], [(1000, .box ty [.sl 1 es, .num .i64 pz]), (1001, .arr 1 ty2 ls)] => (fun (b : List Int) (p : Nat) (L : List Int) (full : Bool) => (.num .i64 (L.getD (pickI b p L.length).toNat 0) : IV)) (toIs es) pz.toNat (toIs ls) full | _, _ => .junk, fun xs hp => match xs, hp with | [.ptr 1000 0, .ref 1001 0 n full], [(1000, .box ty [.sl 1 es, .num .i64 pz]), (1001, .arr 1 ty2 ls)] => (fun (b : List Int) (p : Nat) (L : List Int) (full : Bool) => ([(1000, rdr b (p + 1)), (1001, .arr 1 3 (encI L))] : List (Nat × IBlk))) (toIs es) pz.toNat (toIs ls) full | _, _ => []⟩
theorem hk_spec_reader_one : ∀ args hp, hs_spec_reader_one.pre args hp → HCall Try.prog 113 args (sm hp) (hs_spec_reader_one.val args hp) (sm (hs_spec_reader_one.hval args hp)) := by
  intro args hp h
  unfold hs_spec_reader_one at h ⊢; simp only at h ⊢; split at h
  · obtain ⟨h1, h2, rfl, h3, rfl, rfl, h4, h5, h6, h7⟩ := h; obtain ⟨l, rfl⟩ := isBy_ex h1; obtain ⟨m, rfl⟩ := isI_ex h2; rw [toBy_enc] at *; rw [toIs_enc] at *; rw [h3, len_encI]; exact c_spec_reader_one l _ m _ h4 (by simpa using h5) h6 h7
  · exact h.elim
theorem en_spec_reader_one : Enters Try.prog 113 := enters_of Try.func113 (by kernel_rfl) rfl


def badI (b : List Int) (p : Nat) : Int := [1001, -1001, 1000, -1000].getD (pickI b p 4).toNat 0
def aPoint (b : List Int) (p : Nat) : Pt × Nat :=
  if pickI b (p + 2) 16 = 0 then ((badI b (p + 3), (rPoint b p).2), p + 4)
  else if pickI b (p + 2) 16 = 1 then (((rPoint b p).1, badI b (p + 3)), p + 4)
  else (rPoint b p, p + 3)

def g_spec_anyPoint : List (Nat × PSpec) := []
theorem gok_spec_anyPoint : GOK Try.prog g_spec_anyPoint := gok0
def h_spec_anyPoint : List (Nat × HSpec) := [(108, hs_spec_randomPoint), (107, hs_spec_reader_pick), (113, hs_spec_reader_one)]
theorem hok_spec_anyPoint : HOK Try.prog h_spec_anyPoint := hok_cons hk_spec_randomPoint en_spec_randomPoint (hok_cons hk_spec_reader_pick en_spec_reader_pick (hok_cons hk_spec_reader_one en_spec_reader_one (hok0)))
theorem lh_spec_anyPoint_spec_randomPoint : lkHS h_spec_anyPoint 108 = some hs_spec_randomPoint := rfl
theorem lh_spec_anyPoint_spec_reader_pick : lkHS h_spec_anyPoint 107 = some hs_spec_reader_pick := rfl
theorem lh_spec_anyPoint_spec_reader_one : lkHS h_spec_anyPoint 113 = some hs_spec_reader_one := rfl
theorem c_spec_anyPoint (b : List Int) (p : Nat) (hb : BytesOK b) (hp : p ≤ 800000) : HCall Try.prog 91 [.ptr 1000 0] (sm ([(1000, rdr b p)])) (encP (aPoint b p).1) (sm ([(1000, rdr b (aPoint b p).2)])) := by
  refine hcall_V (G := g_spec_anyPoint) (H := h_spec_anyPoint) [] tabOK mixed gok_spec_anyPoint hok_spec_anyPoint Try.func91 rfl Try.ntmps91 Try.results91 rfl (by kernel_rfl) fun F hN hlen => ?_
  simp only [sm]
  have hp1 : p ≤ 900000 := by omega
  have hp2 : p + 2 ≤ 1000000 := by omega
  have hp3 : p + 2 + 1 ≤ 900000 := by omega
  by_cases c0 : pickI b (p + 2) 16 = 0
  · have d1 : (pickI b (p + 2) 16 == 0) = true := by simpa using c0
    have hA : aPoint b p = ((badI b (p + 3), (rPoint b p).2), p + 4) := by rw [aPoint, if_pos c0]
    have hbd : [1001, -1001, 1000, -1000].getD (pickI b (p + 2 + 1) 4).toNat 0 = badI b (p + 3) := rfl
    simp only [V_seq, V_ret, V_block, V_region, V_cond, brW_true, W_nil, W_cons, effOp2, KN_seq, KN_block, KXr_nil, QE, asB, effOp, effPure, effNew, effAlloc, effBuildSlice, effStore, Option.isSome_some, skipE, pureV, storeV, binV, partV, loadV, faddrV, over, solid, IV.cells, ofC, strip, lkT, lkH, ISt.app, opI, gO, gB, allB, gval, wrapG, dstOK, setD, mentTm, mentHp, IV.ment, IV.mentL, partsL, eltsI, eltI, oneI, noId', idsV, idsL, clean, callArgs, callFn, enumT, conv, conv0, convL, IBlk.shape, Op.operands, reduceIte, reduceCtorEq, cond_true, cond_false, Bool.or_false, Bool.or_true, Bool.and_true, Bool.false_and, Nat.reduceAdd, Nat.reduceSub, Nat.reduceMul, Nat.reduceLT, Nat.reduceLeDiff, Nat.reduceEqDiff, Nat.reduceBEq, Nat.add_zero, Nat.zero_add, ne_eq, not_false_eq_true, beq_self_eq_true, true_and, and_true, and_false, and_self, false_implies, implies_true, List.map_cons, List.map_nil, List.nil_append, List.cons_append, List.append_nil, List.all_cons, List.all_nil, Option.map_some, List.getD_cons_zero, List.getD_cons_succ, List.length_cons, List.length_nil, List.take_succ_cons, List.take_zero, List.take_nil, List.drop_succ_cons, List.drop_zero, List.drop_nil, ex_clo, or_self, Bool.true_eq_false, Bool.false_eq_true, tab3, tab25, tab30, hN, Int.toNat_natCast, encP, isBy_enc, toBy_enc, isIs_nil, toIs_nil, isIs_cons, toIs_cons, FinH, resA, resV, SLe, SLe0, convTm, convHp, convB, sm, effH, mkHC0, mkHC1, lendM, lentM, lentI, allHere, addIds, idsB, flatIds, reach, posn, renV, renL, renB, renH, numB, subHp, fwd, bk, bwd, nones, keyOK, noSl, noSlL, flatBs, List.contains, List.elem, Option.isSome_some, List.nodup_nil, List.nodup_cons, List.not_mem_nil, List.mem_cons, or_false, Option.getD_some, lh_spec_anyPoint_spec_randomPoint, lh_spec_anyPoint_spec_reader_pick, lh_spec_anyPoint_spec_reader_one, hs_spec_randomPoint, hs_spec_reader_pick, hs_spec_reader_one, rdr, hb, hp1, hp2, hp3, d1, hA]
    exact ⟨by omega, List.take_length.symm, id, by simp [convL, conv, conv0, clean, badI]; omega⟩
  · have d1 : (pickI b (p + 2) 16 == 0) = false := by simpa using c0
    by_cases c1 : pickI b (p + 2) 16 = 1
    · have d2 : (pickI b (p + 2) 16 == 1) = true := by simpa using c1
      have hA : aPoint b p = (((rPoint b p).1, badI b (p + 3)), p + 4) := by rw [aPoint, if_neg c0, if_pos c1]
      have hbd : [1001, -1001, 1000, -1000].getD (pickI b (p + 2 + 1) 4).toNat 0 = badI b (p + 3) := rfl
      simp only [V_seq, V_ret, V_block, V_region, V_cond, brW_true, brW_false, W_nil, W_cons, effOp2, KN_seq, KN_block, KXr_nil, QE, asB, effOp, effPure, effNew, effAlloc, effBuildSlice, effStore, Option.isSome_some, skipE, pureV, storeV, binV, partV, loadV, faddrV, over, solid, IV.cells, ofC, strip, lkT, lkH, ISt.app, opI, gO, gB, allB, gval, wrapG, dstOK, setD, mentTm, mentHp, IV.ment, IV.mentL, partsL, eltsI, eltI, oneI, noId', idsV, idsL, clean, callArgs, callFn, enumT, conv, conv0, convL, IBlk.shape, Op.operands, reduceIte, reduceCtorEq, cond_true, cond_false, Bool.or_false, Bool.or_true, Bool.and_true, Bool.false_and, Nat.reduceAdd, Nat.reduceSub, Nat.reduceMul, Nat.reduceLT, Nat.reduceLeDiff, Nat.reduceEqDiff, Nat.reduceBEq, Nat.zero_add, ne_eq, not_false_eq_true, beq_self_eq_true, true_and, and_true, and_false, and_self, false_implies, implies_true, List.map_cons, List.map_nil, List.nil_append, List.cons_append, List.append_nil, List.all_cons, List.all_nil, Option.map_some, List.getD_cons_zero, List.getD_cons_succ, List.length_cons, List.length_nil, List.take_succ_cons, List.take_zero, List.take_nil, List.drop_succ_cons, List.drop_zero, List.drop_nil, ex_clo, or_self, Bool.true_eq_false, Bool.false_eq_true, tab3, tab25, tab30, hN, Int.toNat_natCast, encP, isBy_enc, toBy_enc, isIs_nil, toIs_nil, isIs_cons, toIs_cons, FinH, resA, resV, SLe, SLe0, convTm, convHp, convB, sm, effH, mkHC0, mkHC1, lendM, lentM, lentI, allHere, addIds, idsB, flatIds, reach, posn, renV, renL, renB, renH, numB, subHp, fwd, bk, bwd, nones, keyOK, noSl, noSlL, flatBs, List.contains, List.elem, Option.isSome_some, List.nodup_nil, List.nodup_cons, List.not_mem_nil, List.mem_cons, or_false, Option.getD_some, lh_spec_anyPoint_spec_randomPoint, lh_spec_anyPoint_spec_reader_pick, lh_spec_anyPoint_spec_reader_one, hs_spec_randomPoint, hs_spec_reader_pick, hs_spec_reader_one, rdr, hb, hp1, hp2, hp3, d1, d2, hA]
      exact ⟨by omega, List.take_length.symm, id, by simp [convL, conv, conv0, clean, badI]; omega⟩
    · have d2 : (pickI b (p + 2) 16 == 1) = false := by simpa using c1
      have hA : aPoint b p = (rPoint b p, p + 3) := by rw [aPoint, if_neg c0, if_neg c1]
      simp only [V_seq, V_skip, V_ret, V_block, V_region, V_cond, brW_false, W_nil, W_cons, effOp2, KN_seq, KN_block, KXr_nil, QE, asB, effOp, effPure, effNew, effAlloc, effStore, Option.isSome_some, skipE, pureV, storeV, binV, partV, loadV, over, solid, IV.cells, ofC, strip, lkT, lkH, ISt.app, opI, gO, gB, allB, gval, wrapG, dstOK, setD, mentTm, mentHp, IV.ment, IV.mentL, oneI, idsV, idsL, clean, callArgs, callFn, enumT, conv, conv0, convL, IBlk.shape, Op.operands, reduceIte, reduceCtorEq, cond_true, cond_false, Bool.or_false, Bool.or_true, Bool.and_true, Nat.reduceAdd, Nat.reduceSub, Nat.reduceMul, Nat.reduceLT, Nat.reduceLeDiff, Nat.reduceEqDiff, Nat.reduceBEq, Nat.zero_add, not_false_eq_true, beq_self_eq_true, true_and, and_true, and_false, and_self, false_implies, implies_true, List.map_cons, List.map_nil, List.nil_append, List.cons_append, List.append_nil, List.all_cons, List.all_nil, Option.map_some, List.getD_cons_zero, List.length_cons, List.length_nil, List.take_succ_cons, List.take_zero, List.take_nil, List.drop_succ_cons, List.drop_zero, List.drop_nil, ex_clo, Bool.true_eq_false, Bool.false_eq_true, tab30, hN, Int.toNat_natCast, encP, isBy_enc, toBy_enc, FinH, resA, resV, SLe, SLe0, convTm, convHp, convB, sm, effH, mkHC0, mkHC1, lendM, lentM, lentI, allHere, addIds, idsB, flatIds, reach, posn, renV, renL, renB, renH, numB, subHp, fwd, bk, bwd, nones, keyOK, noSl, noSlL, flatBs, List.contains, List.elem, Option.isSome_some, List.nodup_nil, List.nodup_cons, List.not_mem_nil, or_false, Option.getD_some, lh_spec_anyPoint_spec_randomPoint, lh_spec_anyPoint_spec_reader_pick, hs_spec_randomPoint, hs_spec_reader_pick, rdr, hb, hp1, hp2, d1, d2, hA]
      exact ⟨by omega, id, by simp [convL, conv, conv0, clean]; omega⟩
def hs_spec_anyPoint : HSpec := ⟨[false], fun xs hp => match xs, hp with | [.ptr 1000 0], [(1000, .box ty [.sl 1 es, .num .i64 pz])] => (isBy es) ∧ (ty = 110) ∧ (pz = (pz.toNat : Int)) ∧ ((fun (b : List Int) (p : Nat) => BytesOK b) (toIs es) pz.toNat) ∧ ((fun (b : List Int) (p : Nat) => p ≤ 800000) (toIs es) pz.toNat) | _, _ => False, fun xs hp => match xs, hp with | [.ptr 1000 0], [(1000, .box ty [.sl 1 es, .num .i64 pz])] => (fun (b : List Int) (p : Nat) => (encP (aPoint b p).1 : IV)) (toIs es) pz.toNat | _, _ => .junk, fun xs hp => match xs, hp with | [.ptr 1000 0], [(1000, .box ty [.sl 1 es, .num .i64 pz])] => (fun (b : List Int) (p : Nat) => ([(1000, rdr b (aPoint b p).2)] : List (Nat × IBlk))) (toIs es) pz.toNat | _, _ => []⟩
theorem hk_spec_anyPoint : ∀ args hp, hs_spec_anyPoint.pre args hp → HCall Try.prog 91 args (sm hp) (hs_spec_anyPoint.val args hp) (sm (hs_spec_anyPoint.hval args hp)) := by
  intro args hp h
  unfold hs_spec_anyPoint at h ⊢; simp only at h ⊢; split at h
  · obtain ⟨h1, rfl, h3, h4, h5⟩ := h; obtain ⟨l, rfl⟩ := isBy_ex h1; rw [toBy_enc] at *; rw [h3]; exact c_spec_anyPoint l _ h4 (by simpa using h5)
  · exact h.elim
theorem en_spec_anyPoint : Enters Try.prog 91 := enters_of Try.func91 (by kernel_rfl) rfl


/-- The direction that a code draws. -/
def drawDir (b : List Int) : Pt := (aPoint (b.take 2000) (aPoints (b.take 2000) 0 8).2).1
theorem aPoints_pos {b : List Int} (hb : BytesOK b) {p : Nat} (hp : p ≤ 700000) {most : Int} (h0 : 0 ≤ most) (h1 : most ≤ 1000) : (aPoints b p most).2 ≤ p + 2100 := by
  obtain ⟨n1, n2⟩ := rNum_le hb (show p ≤ 900000 by omega) h0
  have hL : (rPoints b p most).length = rNum b p most := rLoop_len _ _ _ _
  unfold aPoints
  simp only []
  split
  · simp only []; omega
  · split
    · simp only []; omega
    · split
      · simp only []; omega
      · simp only []; omega
def g_spec_DrawExtreme : List (Nat × PSpec) := []
theorem gok_spec_DrawExtreme : GOK Try.prog g_spec_DrawExtreme := gok0
def h_spec_DrawExtreme : List (Nat × HSpec) := [(58, hs_spec_newReader), (57, hs_spec_anyPoints), (91, hs_spec_anyPoint)]
theorem hok_spec_DrawExtreme : HOK Try.prog h_spec_DrawExtreme := hok_cons hk_spec_newReader en_spec_newReader (hok_cons hk_spec_anyPoints en_spec_anyPoints (hok_cons hk_spec_anyPoint en_spec_anyPoint (hok0)))
theorem lh_spec_DrawExtreme_spec_newReader : lkHS h_spec_DrawExtreme 58 = some hs_spec_newReader := rfl
theorem lh_spec_DrawExtreme_spec_anyPoints : lkHS h_spec_DrawExtreme 57 = some hs_spec_anyPoints := rfl
theorem lh_spec_DrawExtreme_spec_anyPoint : lkHS h_spec_DrawExtreme 91 = some hs_spec_anyPoint := rfl
theorem c_spec_DrawExtreme (b : List Int) (hb : ∀ x ∈ b, 0 ≤ x ∧ x < 256) (hsz : b.length ≤ 1048576) : ICall Try.prog 44 [.sl 1 (encBy b)] (.tup [.sl 2 (encPs (drawPts b 8)), encP (drawDir b)]) := by
  refine icall_of_hcall (v := .tup [.sl 2 (encPs (drawPts b 8)), encP (drawDir b)]) (hp' := []) id ?_ (by simp [SLe0, convTm, convHp, conv, convL, conv0, lkT, clean, encP]) (by simp [idsV, idsL, encP])
  refine hcall_V (G := g_spec_DrawExtreme) (H := h_spec_DrawExtreme) [] tabOK mixed gok_spec_DrawExtreme hok_spec_DrawExtreme Try.func44 rfl Try.ntmps44 Try.results44 rfl (by kernel_rfl) fun F hN hlen => ?_
  have hbt := bytes_take hb
  have hl := drawPts_len hb (show (0 : Int) ≤ 8 by omega) (by omega)
  have hp := aPoints_pos hbt (show 0 ≤ 700000 by omega) (show (0 : Int) ≤ 8 by omega) (by omega)
  have hp2 : (aPoints (b.take 2000) 0 8).2 ≤ 800000 := by omega
  have hd : (aPoints (b.take 2000) 0 8).1 = drawPts b 8 := rfl
  have hq : (aPoint (b.take 2000) (aPoints (b.take 2000) 0 8).2).1 = drawDir b := rfl
  simp only [V_seq, V_ret, V_region, W_nil, W_cons, effOp2, KN_seq, KXr_nil, QE, effOp, effPure, effNew, effAlloc, effStore, Option.isSome_some, skipE, pureV, storeV, partV, loadV, over, solid, IV.cells, ofC, strip, lkT, lkH, ISt.app, opI, gO, gB, allB, gval, wrapG, dstOK, setD, mentTm, mentHp, IV.ment, IV.mentL, oneI, lendV, lendP, lent, lentP, idsV, idsL, clean, callArgs, callFn, enumT, conv, conv0, convL, IBlk.shape, Op.operands, reduceIte, reduceCtorEq, cond_true, cond_false, Bool.or_false, Bool.or_true, Bool.and_true, Bool.and_false, Bool.not_false, Nat.reduceAdd, Nat.reduceSub, Nat.reduceMul, Nat.reduceLT, Nat.reduceLeDiff, Nat.reduceEqDiff, Nat.reduceBEq, Nat.add_zero, Nat.zero_add, ne_eq, not_false_eq_true, beq_self_eq_true, true_and, and_true, and_false, and_self, false_implies, implies_true, List.map_cons, List.map_nil, List.nil_append, List.cons_append, List.append_nil, List.all_cons, List.all_nil, Option.some.injEq, Option.map_some, Option.map_none, List.getD_cons_zero, List.length_cons, List.length_nil, List.take_succ_cons, List.take_zero, List.take_nil, List.drop_succ_cons, List.drop_zero, List.drop_nil, ex_clo, or_self, Bool.true_eq_false, Bool.false_eq_true, tab30, hN, Int.toNat_natCast, encP, isBy_enc, toBy_enc, FinH, resA, resL, resV, SLe, SLe0, convTm, convHp, convB, sm, effH, mkHC0, mkHC1, lendM, lentM, lentI, allHere, addIds, idsB, flatIds, reach, posn, renV, renL, renB, renH, numB, subHp, fwd, bk, bwd, nones, keyOK, noSl, noSlL, flatBs, List.contains, List.elem, Option.isSome_some, Option.isSome_none, List.nodup_nil, List.nodup_cons, List.not_mem_nil, List.mem_cons, or_false, Option.getD_some, lh_spec_DrawExtreme_spec_newReader, lh_spec_DrawExtreme_spec_anyPoints, lh_spec_DrawExtreme_spec_anyPoint, hs_spec_newReader, hs_spec_anyPoints, hs_spec_anyPoint, rdr, hsz, hbt, hd, hp2, hq]
  exact ⟨⟨⟨by omega, by omega⟩, List.take_length.symm⟩, id, ⟨_, _, rfl, by rw [len_encPs]; exact Nat.le_refl _, (take_encPs _).symm⟩, fun _ _ _ => rfl⟩
def sp_spec_DrawExtreme : PSpec := ⟨fun xs => match xs with | [.sl 1 bes] => isBy bes ∧ ((fun (b : List Int) => ∀ x ∈ b, 0 ≤ x ∧ x < 256) (toIs bes)) ∧ ((fun (b : List Int) => b.length ≤ 1048576) (toIs bes)) | _ => False, fun xs => match xs with | [.sl _ bes] => (fun (b : List Int) => .tup [.sl 2 (encPs (drawPts b 8)), encP (drawDir b)]) (toIs bes) | _ => .junk, false⟩
theorem gk_spec_DrawExtreme : ∀ args, sp_spec_DrawExtreme.pre args → ICall Try.prog 44 args (sp_spec_DrawExtreme.val args) := by
  intro args h
  unfold sp_spec_DrawExtreme at h ⊢; simp only at h ⊢; split at h
  · obtain ⟨h0, h1, h2⟩ := h
    obtain ⟨l0, rfl⟩ := isBy_ex h0
    simp only [toBy_enc] at *
    exact c_spec_DrawExtreme _ h1 h2
  · exact h.elim
theorem en_spec_DrawExtreme : Enters Try.prog 44 := enters_of Try.func44 (by kernel_rfl) rfl


theorem rLoop_sm {b : List Int} (hb : BytesOK b) (k : Int) : ∀ n p, p + 2 * n ≤ 1000000 → SmL (rLoop b k n p)
  | 0, _, _ => fun p hp => by simp [rLoop] at hp
  | n + 1, p, h => fun q hq => by
    rcases List.mem_cons.1 hq with rfl | hq
    · have := rPoint_le hb (show p ≤ 1000000 by omega)
      unfold rAdj Sm sm1
      split
      · simp only []; omega
      · split
        · simp only []; omega
        · omega
    · exact rLoop_sm hb k n (p + 2) (by omega) q hq
theorem ext_yes {l : List Pt} {d : Pt} (h : okPs l = true ∧ 0 < l.length ∧ okP d = true) : extI l d = (farI l d l.length : Int) := if_pos h
theorem ext_no {l : List Pt} {d : Pt} (h : ¬ (okPs l = true ∧ 0 < l.length ∧ okP d = true)) : extI l d = -1 := if_neg h
/-- The hull reaches as far in each direction. -/
theorem ext_hull {l : List Pt} (d : Pt) (h0 : 0 < l.length) : 0 < (hullP l).length ∧ dotP (pAt (hullP l) (farI (hullP l) d (hullP l).length)) d = dotP (pAt l (farI l d l.length)) d := by
  have hh : 0 < (hullP l).length := by
    rcases Nat.eq_zero_or_pos (hullP l).length with h | h
    · have := hullP_nil.1 (List.length_eq_zero_iff.1 h)
      subst this; simp at h0
    · exact h
  refine ⟨hh, Int.le_antisymm ?_ ?_⟩
  · have h1 := farI_lt (hullP l) d _ hh
    obtain ⟨i, hi, he⟩ := List.getElem_of_mem (mem_hullP_sub (l := l) (v := pAt (hullP l) (farI (hullP l) d (hullP l).length)) (by
      rw [pAt, List.getD, List.getElem?_eq_getElem h1]; exact List.getElem_mem h1))
    have := farI_max l d l.length i hi
    rw [← he]
    simpa [pAt, List.getD, hi] using this
  · have h1 := farI_lt l d _ h0
    obtain ⟨v, hv, hle⟩ := hullP_sup l d.1 d.2 (q := pAt l (farI l d l.length)) (by
      rw [pAt, List.getD, List.getElem?_eq_getElem h1]; exact List.getElem_mem h1)
    rw [← dotP_lin, ← dotP_lin] at hle
    obtain ⟨i, hi, rfl⟩ := List.getElem_of_mem hv
    have := farI_max (hullP l) d _ i hi
    simp only [pAt, List.getD, List.getElem?_eq_getElem hi, Option.getD_some] at this
    exact Int.le_trans hle this

theorem okPs_sub {l m : List Pt} (h : okPs l = true) (hs : ∀ x ∈ m, x ∈ l) (hn : m.length ≤ l.length) : okPs m = true := by
  simp only [okPs, Bool.and_eq_true, List.all_eq_true, decide_eq_true_eq] at h ⊢
  exact ⟨fun x hx => h.1 x (hs x hx), by omega⟩

def g_laws_FnExtreme : List (Nat × PSpec) := [(44, sp_spec_DrawExtreme), (45, sp_impl_Extreme), (46, sp_spec_Extreme), (47, sp_impl_Hull)]
theorem gok_laws_FnExtreme : GOK Try.prog g_laws_FnExtreme := gok_cons gk_spec_DrawExtreme en_spec_DrawExtreme (gok_cons gk_impl_Extreme en_impl_Extreme (gok_cons gk_spec_Extreme en_spec_Extreme (gok_cons gk_impl_Hull en_impl_Hull (gok0))))
theorem lk_laws_FnExtreme_spec_DrawExtreme : lkG g_laws_FnExtreme 44 = sp_spec_DrawExtreme := rfl
theorem lk_laws_FnExtreme_impl_Extreme : lkG g_laws_FnExtreme 45 = sp_impl_Extreme := rfl
theorem lk_laws_FnExtreme_spec_Extreme : lkG g_laws_FnExtreme 46 = sp_spec_Extreme := rfl
theorem lk_laws_FnExtreme_impl_Hull : lkG g_laws_FnExtreme 47 = sp_impl_Hull := rfl
def h_laws_FnExtreme : List (Nat × HSpec) := []
theorem hok_laws_FnExtreme : HOK Try.prog h_laws_FnExtreme := hok0
theorem c_laws_FnExtreme (b : List Int) (hb : ∀ x ∈ b, 0 ≤ x ∧ x < 256) : ICall Try.prog 10 [.sl 1 (encBy b)] (.bool true) := by
  refine icall_V (G := g_laws_FnExtreme) (H := []) [] tabOK mixed gok_laws_FnExtreme hok_laws_FnExtreme Try.func10 rfl Try.ntmps10 Try.results10 rfl (by kernel_rfl) fun F hN hlen => ?_
  have el := len_encBy b
  simp only [V_seq, V_region, V_cond, W_nil, W_cons, effOp2, KN_seq, asB, effOp, effPure, pureV, binV, lenV, ofC, strip, lkT, ISt.app, opI, gO, gB, allB, gval, wrapG, dstOK, setD, enumT, Op.operands, Call.operands, List.append_toArray, reduceIte, reduceCtorEq, Nat.reduceLT, Nat.reduceEqDiff, ne_eq, not_false_eq_true, true_and, and_self, implies_true, List.nil_append, List.cons_append, List.append_nil, tab22, hN, el]
  refine brW_some (fun h => ?_) (fun h => ?_)
  · simp only [V_seq, V_ret, V_region, W_nil, W_cons, effOp2, KN_seq, KXr_nil, KXr_seq, QE, effOp, effPure, pureV, ofC, strip, lkT, lkH, ISt.app, opI, gO, gB, allB, gval, wrapG, dstOK, setD, clean, Gives, Ideal.Fin, conv, conv0, Op.operands, reduceIte, reduceCtorEq, Nat.reduceLT, Nat.reduceEqDiff, and_self, implies_true, List.nil_append, List.cons_append, List.append_nil, hN]
  · have hsz : b.length ≤ 1048576 := by simp at h; omega
    have hl := drawPts_len hb (show (0 : Int) ≤ 8 by omega) (by omega)
    obtain ⟨l, hl0⟩ : ∃ l, drawPts b 8 = l := ⟨_, rfl⟩
    obtain ⟨d, hd0⟩ : ∃ d, drawDir b = d := ⟨_, rfl⟩
    rw [hl0] at hl
    have e1 := len_encPs l
    by_cases hx : okPs l = true ∧ 0 < l.length ∧ okP d = true
    · have hE := ext_yes hx
      obtain ⟨hk, h0, hd⟩ := hx
      have hkl := farI_lt l d l.length h0
      have hmax := farI_max l d l.length
      obtain ⟨hh0, hh⟩ := ext_hull d h0
      obtain ⟨k, hk0⟩ : ∃ k, farI l d l.length = k := ⟨_, rfl⟩
      rw [hk0] at hE hkl hmax hh
      have hm := okPs_sm hk
      have sd := okP_sm hd
      have g1 := getD_encPs hkl
      have s1 := hm.at k
      have m3 := sm_mul s1.1 sd.1
      have m4 := sm_mul s1.2 sd.2
      have w3 : IntKind.i64.wrap ((pAt l k).1 * d.1) = (pAt l k).1 * d.1 := wr (by omega) (by omega)
      have w4 : IntKind.i64.wrap ((pAt l k).2 * d.2) = (pAt l k).2 * d.2 := wr (by omega) (by omega)
      have w6 : IntKind.i64.wrap ((pAt l k).1 * d.1 + (pAt l k).2 * d.2) = dotP (pAt l k) d := wr (by omega) (by omega)
      have d1 : (((k : Nat) : Int) != ((k : Nat) : Int)) = false := by simp
      have d2 : decide (((k : Nat) : Int) < 0) = false := by simp
      simp only [V_seq, V_skip, V_block, V_region, V_draw, V_cond, brW_false, drawW, pairsOf, W_nil, W_cons, WD_nil, WD_cons, effOp2, KN_seq, asB, effOp, effPure, effPick, effNew, effAlloc, effStore, effCall, giveUp, hasAll, skipE, pureV, pickV, storeV, binV, partV, eltV, loadV, faddrV, iaddrV, over, solid, IV.cells, ofC, strip, lkT, lkH, ISt.app, opI, gO, gB, allB, gval, wrapG, dstOK, setD, mentTm, mentHp, IV.ment, IV.mentL, oneI, lendV, lendP, lent, lentP, idsV, idsL, lkHS, flat, flatL, clean, cleanL, callArgs, callFn, allLent, IBlk.shape, Op.operands, reduceIte, reduceCtorEq, cond_true, cond_false, Bool.or_false, Bool.and_true, Bool.not_true, Nat.reduceAdd, Nat.reduceLT, Nat.reduceLeDiff, Nat.reduceEqDiff, Nat.add_zero, Nat.zero_add, ne_eq, not_false_eq_true, beq_self_eq_true, true_and, and_true, and_false, and_self, implies_true, forall_const, List.map_cons, List.map_nil, List.nil_append, List.cons_append, List.append_nil, List.all_cons, List.all_nil, Option.map_some, Option.bind_some, List.getElem?_cons_zero, List.getElem?_cons_succ, List.getD_cons_zero, List.getD_cons_succ, List.length_cons, List.length_nil, List.take_succ_cons, List.take_zero, List.take_nil, List.drop_succ_cons, List.drop_zero, List.drop_nil, ex_clo, or_true, or_self, Bool.false_eq_true, tab3, tab23, tab30, hN, pe, Int.toNat_natCast, encP, isPs_enc, toPs_enc, isBy_enc, toBy_enc, lk_laws_FnExtreme_spec_DrawExtreme, lk_laws_FnExtreme_impl_Extreme, lk_laws_FnExtreme_spec_Extreme, sp_spec_DrawExtreme, sp_impl_Extreme, sp_spec_Extreme, hsz, hl0, hd0, e1, hE, d1, d2, g1, w3, w4, w6]
      refine ⟨hb, ⟨by omega, by omega⟩, ⟨by omega, by omega⟩, ?_⟩
      refine V_loop (α := Nat) ⟨tabOK, mixed, gok_laws_FnExtreme, hok_laws_FnExtreme⟩ (by kernel_rfl) (fun i => i ≤ l.length) (fun i => ⟨[(7, .num .i64 i), (6, .num .i64 (dotP (pAt l k) d)), (4, .ptr 4 0), (3, .sl 2 (encPs l))], [(4, some (.box 30 [.num .i64 d.1, .num .i64 d.2]))]⟩) (fun i => l.length - i) 0 id (Nat.zero_le _) (by simp [SLe, SLe0, convTm, convHp, convB, conv, conv0, convL, lkT, lkH, clean]) ?_
      intro i hi
      simp only [V_seq, V_region, V_cond, W_nil, W_cons, effOp2, KN_seq, asB, effOp, effPure, pureV, binV, lenV, strip, lkT, ISt.app, opI, gO, gB, allB, gval, wrapG, dstOK, setD, Op.operands, Call.operands, List.append_toArray, reduceIte, reduceCtorEq, Nat.reduceLT, Nat.reduceEqDiff, ne_eq, not_false_eq_true, true_and, and_self, implies_true, List.nil_append, List.cons_append, tab23, hN, e1]
      refine brW_some (fun h => ?_) (fun h => ?_)
      · have hi' : i < l.length := by simpa using h
        have g0 := getD_encPs hi'
        have hw := wr_succ hi' (by rw [maxLen_eq]; omega)
        have s0 := hm.at i
        have m1 := sm_mul s0.1 sd.1
        have m2 := sm_mul s0.2 sd.2
        have w1 : IntKind.i64.wrap ((pAt l i).1 * d.1) = (pAt l i).1 * d.1 := wr (by omega) (by omega)
        have w2 : IntKind.i64.wrap ((pAt l i).2 * d.2) = (pAt l i).2 * d.2 := wr (by omega) (by omega)
        have w5 : IntKind.i64.wrap ((pAt l i).1 * d.1 + (pAt l i).2 * d.2) = dotP (pAt l i) d := wr (by omega) (by omega)
        have d3 : decide (dotP (pAt l k) d < dotP (pAt l i) d) = false := by have := hmax i hi'; simp only [decide_eq_false_iff_not]; omega
        simp only [V_seq, V_skip, V_block, V_region, V_draw, V_cond, brW_false, drawW, pairsOf, W_nil, W_cons, WD_nil, WD_cons, effOp2, KN_seq, KN_block, KN_back, asB, effOp, effPure, pureV, binV, partV, eltV, loadV, faddrV, iaddrV, ofC, strip, lkT, lkH, ISt.app, opI, gO, gB, allB, gval, wrapG, dstOK, setD, IBlk.shape, Op.operands, reduceIte, reduceCtorEq, Nat.reduceAdd, Nat.reduceLT, Nat.reduceLeDiff, Nat.reduceEqDiff, Nat.add_zero, Nat.zero_add, ne_eq, not_false_eq_true, true_and, and_true, and_false, and_self, implies_true, forall_const, List.nil_append, List.cons_append, Option.map_some, List.getD_cons_zero, List.getD_cons_succ, List.length_cons, List.length_nil, List.take_succ_cons, List.take_zero, List.take_nil, List.drop_succ_cons, List.drop_zero, tab3, tab23, tab30, hN, Int.toNat_natCast, e1, g0, hw, w1, w2, w5, d3]
        repeat refine And.intro (by first | omega | (simp; done) | (simp; omega)) ?_
        exact ⟨i + 1, id, by simp only []; omega, by simp only []; omega, by simp [SLe, SLe0, convTm, convHp, convB, conv, conv0, convL, lkT, lkH, clean]⟩
      · have hkh : okPs (hullP l) = true := okPs_sub hk (fun x hx => mem_hullP_sub hx) (hullP_len l)
        have hE2 := ext_yes ⟨hkh, hh0, hd⟩
        have hm2 := okPs_sm hkh
        have e2 := len_encPs (hullP l)
        have hml := farI_lt (hullP l) d (hullP l).length hh0
        obtain ⟨m, hm0⟩ : ∃ m, farI (hullP l) d (hullP l).length = m := ⟨_, rfl⟩
        rw [hm0] at hE2 hml hh
        have g2 := getD_encPs hml
        have s2 := hm2.at m
        have m1 := sm_mul s2.1 sd.1
        have m2 := sm_mul s2.2 sd.2
        have w1 : IntKind.i64.wrap ((pAt (hullP l) m).1 * d.1) = (pAt (hullP l) m).1 * d.1 := wr (by omega) (by omega)
        have w2 : IntKind.i64.wrap ((pAt (hullP l) m).2 * d.2) = (pAt (hullP l) m).2 * d.2 := wr (by omega) (by omega)
        have w5 : IntKind.i64.wrap ((pAt (hullP l) m).1 * d.1 + (pAt (hullP l) m).2 * d.2) = dotP (pAt (hullP l) m) d := wr (by omega) (by omega)
        have d3 : decide ((0 : Int) ≤ (m : Int)) = true := by simp
        have d4 : decide ((m : Int) < ((hullP l).length : Int)) = true := by simpa using hml
        simp only [V_seq, V_ret, V_exit, V_region, V_draw, drawW, pairsOf, W_nil, W_cons, WD_nil, WD_cons, effOp2, KN_seq, KXr_nil, KXe_nil, KXe_seq, KXe_block, KXe_back, QE, effOp, effPure, effPick, effCall, giveUp, hasAll, pureV, pickV, binV, partV, eltV, loadV, faddrV, iaddrV, lenV, ofC, strip, lkT, lkH, ISt.app, opI, gO, gB, allB, gval, wrapG, dstOK, setD, lendV, lendP, lent, lentP, idsV, idsL, lkHS, flat, clean, callArgs, callFn, allLent, Gives, Ideal.Fin, conv, conv0, IBlk.shape, Op.operands, Call.operands, List.append_toArray, reduceIte, reduceCtorEq, cond_true, cond_false, Bool.or_false, Bool.not_true, Nat.reduceAdd, Nat.reduceLT, Nat.reduceLeDiff, Nat.reduceEqDiff, Nat.add_zero, Nat.zero_add, ne_eq, not_false_eq_true, beq_self_eq_true, true_and, and_true, and_false, and_self, implies_true, forall_const, List.map_cons, List.map_nil, List.nil_append, List.cons_append, List.append_nil, Option.map_some, Option.bind_some, List.getElem?_cons_zero, List.getElem?_cons_succ, List.getD_cons_zero, List.getD_cons_succ, List.length_cons, List.length_nil, List.take_succ_cons, List.take_zero, List.take_nil, List.drop_succ_cons, List.drop_zero, ex_clo, or_true, or_self, Bool.true_eq_false, Bool.false_eq_true, tab3, tab23, tab30, hN, pe, Int.toNat_natCast, isPs_enc, toPs_enc, lk_laws_FnExtreme_impl_Extreme, lk_laws_FnExtreme_impl_Hull, sp_impl_Extreme, sp_impl_Hull, hk, hE2, e2, g2, w1, w2, w5, d3, d4, hh]
        exact ⟨by omega, by omega⟩
    · have hE := ext_no hx
      have d1 : ((-1 : Int) != -1) = false := by decide
      have d2 : ((-1 : Int) == -1) = true := by decide
      have d3 : decide ((-1 : Int) < 0) = true := by decide
      simp only [V_seq, V_skip, V_ret, V_region, V_cond, brW_true, W_nil, W_cons, effOp2, KN_seq, KXr_nil, KXr_seq, QE, asB, effOp, effPure, effPick, effNew, effAlloc, effStore, effCall, giveUp, hasAll, skipE, pureV, pickV, storeV, binV, partV, loadV, over, solid, IV.cells, ofC, strip, lkT, lkH, ISt.app, opI, gO, gB, allB, gval, wrapG, dstOK, setD, mentTm, mentHp, IV.ment, IV.mentL, oneI, lendV, lendP, lent, lentP, idsV, idsL, lkHS, flat, flatL, clean, cleanL, callArgs, callFn, allLent, Gives, Ideal.Fin, conv, conv0, Op.operands, reduceIte, reduceCtorEq, cond_true, cond_false, Bool.or_false, Bool.and_true, Bool.not_true, Nat.reduceAdd, Nat.reduceLT, Nat.reduceLeDiff, Nat.reduceEqDiff, Nat.zero_add, beq_self_eq_true, true_and, and_true, and_false, and_self, implies_true, forall_const, List.map_cons, List.map_nil, List.nil_append, List.cons_append, List.append_nil, List.all_cons, List.all_nil, Option.bind_some, List.getElem?_cons_zero, List.getElem?_cons_succ, List.getD_cons_zero, List.getD_cons_succ, List.length_cons, List.length_nil, List.take_succ_cons, List.take_zero, List.take_nil, List.drop_succ_cons, List.drop_zero, List.drop_nil, ex_clo, or_true, or_self, Bool.false_eq_true, tab30, hN, pe, encP, isPs_enc, toPs_enc, isBy_enc, toBy_enc, lk_laws_FnExtreme_spec_DrawExtreme, lk_laws_FnExtreme_impl_Extreme, lk_laws_FnExtreme_spec_Extreme, sp_spec_DrawExtreme, sp_impl_Extreme, sp_spec_Extreme, hsz, hl0, hd0, hE, d1, d3]
      exact hb
def sp_laws_FnExtreme : PSpec := ⟨fun xs => match xs with | [.sl 1 bes] => isBy bes ∧ ((fun (b : List Int) => ∀ x ∈ b, 0 ≤ x ∧ x < 256) (toIs bes)) | _ => False, fun xs => match xs with | [.sl _ bes] => (fun (b : List Int) => .bool true) (toIs bes) | _ => .junk, false⟩
theorem gk_laws_FnExtreme : ∀ args, sp_laws_FnExtreme.pre args → ICall Try.prog 10 args (sp_laws_FnExtreme.val args) := by
  intro args h
  unfold sp_laws_FnExtreme at h ⊢; simp only at h ⊢; split at h
  · obtain ⟨h0, h1⟩ := h
    obtain ⟨l0, rfl⟩ := isBy_ex h0
    simp only [toBy_enc] at *
    exact c_laws_FnExtreme _ h1
  · exact h.elim
theorem en_laws_FnExtreme : Enters Try.prog 10 := enters_of Try.func10 (by kernel_rfl) rfl


end Go.Proofs.Ytodeicbcacggdaa
