/- Contracts: circles through three points. -/
import Derived.Test.YteaanfpkakaaoaaBJ
import Derived.Test.YteaanfpkakaaoaaBG
import Derived.Test.YteaanfpkakaaoaaPl10
set_option linter.unusedVariables false
set_option linter.unusedSimpArgs false
set_option maxHeartbeats 1600000
set_option maxRecDepth 100000
namespace Go.Proofs.Yteaanfpkakaaoaa
open Go Go.Ideal Go.Pl Go.Sort

theorem sgn_bdI (a : Int) : -1 ≤ sgnI a ∧ sgnI a ≤ 1 := by unfold sgnI; split <;> (try split) <;> omega
theorem sg_mulI (a b : Int) : IntKind.i64.wrap (sgnI a * sgnI b) = sgnI a * sgnI b := by
  have h3 := mulb (A := 1) (B := 1) (sgn_bdI a) (sgn_bdI b)
  exact wr (by omega) (by omega)
/-- A point that is near enough for the products of four coordinates. -/
def Vp (p : Pt) : Prop := (-1000 ≤ p.1 ∧ p.1 ≤ 1000) ∧ (-1000 ≤ p.2 ∧ p.2 ≤ 1000)
theorem okP_vp {p : Pt} (h : okP p = true) : Vp p := by
  simp only [okP, inR, Bool.and_eq_true, decide_eq_true_eq] at h
  exact h
theorem Vp.sm {p : Pt} (h : Vp p) : Sm p := by unfold Vp at h; unfold Sm sm1; omega
theorem okPs_vp {l : List Pt} (h : okPs l = true) {i : Nat} (hi : i < l.length) : Vp (pAt l i) := by
  simp only [okPs, Bool.and_eq_true, List.all_eq_true] at h
  refine okP_vp (h.1 _ ?_)
  rw [pAt, List.getD, List.getElem?_eq_getElem hi]; exact List.getElem_mem hi
theorem vp_sub {x y : Int} (hx : -1000 ≤ x ∧ x ≤ 1000) (hy : -1000 ≤ y ∧ y ≤ 1000) : -2000 ≤ x - y ∧ x - y ≤ 2000 := by omega
theorem det_bd {x y z w u v : Int} (hx : -2000 ≤ x ∧ x ≤ 2000) (hy : -2000 ≤ y ∧ y ≤ 2000) (hz : -2000 ≤ z ∧ z ≤ 2000) (hw : -2000 ≤ w ∧ w ≤ 2000) (hu : -2000 ≤ u ∧ u ≤ 2000) (hv : -2000 ≤ v ∧ v ≤ 2000) :
    -64000000000000 ≤ (x * x + y * y) * (z * w - u * v) ∧ (x * x + y * y) * (z * w - u * v) ≤ 64000000000000 := by
  have h1 := mulb hx hx
  have h2 := mulb hy hy
  have h3 := mulb hz hw
  have h4 := mulb hu hv
  have h5 := mulb (x := x * x + y * y) (y := z * w - u * v) (A := 8000000) (B := 8000000) (by omega) (by omega)
  omega

def g_spec_inCircle : List (Nat × PSpec) := [(82, sp_spec_sign)]
theorem gok_spec_inCircle : GOK Try.prog g_spec_inCircle := gok_cons gk_spec_sign en_spec_sign (gok0)
theorem lk_spec_inCircle_spec_sign : lkG g_spec_inCircle 82 = sp_spec_sign := rfl
def h_spec_inCircle : List (Nat × HSpec) := []
theorem hok_spec_inCircle : HOK Try.prog h_spec_inCircle := hok0
theorem c_spec_inCircle (a : Pt) (b : Pt) (c : Pt) (d : Pt) (ha : Vp a) (hb : Vp b) (hc : Vp c) (hd : Vp d) : ICall Try.prog 58 [encP a, encP b, encP c, encP d] (.num .i64 (sgnI (inC a b c d))) := by
  refine icall_V (G := g_spec_inCircle) (H := []) [] tabOK mixed gok_spec_inCircle hok_spec_inCircle Try.func58 rfl Try.ntmps58 Try.results58 rfl (by kernel_rfl) fun F hN hlen => ?_
  have ax := vp_sub ha.1 hd.1
  have ay := vp_sub ha.2 hd.2
  have bx := vp_sub hb.1 hd.1
  have b_ := vp_sub hb.2 hd.2
  have cx := vp_sub hc.1 hd.1
  have cy := vp_sub hc.2 hd.2
  have i0 : inC a b c d = ((a.1 - d.1) * (a.1 - d.1) + (a.2 - d.2) * (a.2 - d.2)) * ((b.1 - d.1) * (c.2 - d.2) - (b.2 - d.2) * (c.1 - d.1)) - ((b.1 - d.1) * (b.1 - d.1) + (b.2 - d.2) * (b.2 - d.2)) * ((a.1 - d.1) * (c.2 - d.2) - (a.2 - d.2) * (c.1 - d.1)) + ((c.1 - d.1) * (c.1 - d.1) + (c.2 - d.2) * (c.2 - d.2)) * ((a.1 - d.1) * (b.2 - d.2) - (a.2 - d.2) * (b.1 - d.1)) := rfl
  have u1 : IntKind.i64.wrap (a.1 - d.1) = a.1 - d.1 := wr (by omega) (by omega)
  have u2 : IntKind.i64.wrap (a.2 - d.2) = a.2 - d.2 := wr (by omega) (by omega)
  have u3 : IntKind.i64.wrap (b.1 - d.1) = b.1 - d.1 := wr (by omega) (by omega)
  have u4 : IntKind.i64.wrap (b.2 - d.2) = b.2 - d.2 := wr (by omega) (by omega)
  have u5 : IntKind.i64.wrap (c.1 - d.1) = c.1 - d.1 := wr (by omega) (by omega)
  have u6 : IntKind.i64.wrap (c.2 - d.2) = c.2 - d.2 := wr (by omega) (by omega)
  simp only [V_seq, V_ret, V_region, W_nil, W_cons, effOp2, KN_seq, KXr_nil, QE, effOp, effPure, effNew, effBox, effCall, giveUp, hasAll, skipE, pureV, binV, partV, loadV, faddrV, solid, IV.cells, ofC, strip, lkT, lkH, ISt.app, opI, gO, gB, allB, gval, wrapG, dstOK, setD, mentTm, mentHp, IV.ment, IV.mentL, oneI, lendV, lendP, lent, lentP, idsV, idsL, lkHS, flat, clean, callArgs, callFn, allLent, enumT, Gives, Ideal.Fin, conv, conv0, IBlk.shape, Op.operands, reduceIte, reduceCtorEq, cond_true, Bool.or_false, Bool.and_true, Bool.not_true, Nat.reduceAdd, Nat.reduceLT, Nat.reduceLeDiff, Nat.reduceEqDiff, Nat.reduceBEq, Nat.add_zero, Nat.zero_add, true_and, and_true, and_self, implies_true, List.map_cons, List.map_nil, List.nil_append, List.cons_append, List.append_nil, List.all_cons, List.all_nil, Option.map_some, List.getD_cons_zero, List.getD_cons_succ, List.length_cons, List.length_nil, List.take_succ_cons, List.take_zero, List.take_nil, List.drop_succ_cons, List.drop_zero, ex_clo, or_self, tab3, tab34, hN, encP, lk_spec_inCircle_spec_sign, sp_spec_sign, u1, u2, u3, u4, u5, u6]
  rw [i0]
  generalize a.1 - d.1 = x1 at *
  generalize a.2 - d.2 = x2 at *
  generalize b.1 - d.1 = y1 at *
  generalize b.2 - d.2 = y2 at *
  generalize c.1 - d.1 = z1 at *
  generalize c.2 - d.2 = z2 at *
  have m1 := mulb ax ax
  have m2 := mulb ay ay
  have m3 := mulb bx bx
  have m4 := mulb b_ b_
  have m5 := mulb cx cx
  have m6 := mulb cy cy
  have m7 := mulb bx cy
  have m8 := mulb b_ cx
  have m9 := mulb ax cy
  have mA := mulb ay cx
  have mB := mulb ax b_
  have mC := mulb ay bx
  have d1 := det_bd ax ay bx cy b_ cx
  have d2 := det_bd bx b_ ax cy ay cx
  have d3 := det_bd cx cy ax b_ ay bx
  rw [wr (x := x1 * x1) (by omega) (by omega), wr (x := x2 * x2) (by omega) (by omega), wr (x := y1 * y1) (by omega) (by omega), wr (x := y2 * y2) (by omega) (by omega), wr (x := z1 * z1) (by omega) (by omega), wr (x := z2 * z2) (by omega) (by omega)]
  rw [wr (x := y1 * z2) (by omega) (by omega), wr (x := y2 * z1) (by omega) (by omega), wr (x := x1 * z2) (by omega) (by omega), wr (x := x2 * z1) (by omega) (by omega), wr (x := x1 * y2) (by omega) (by omega), wr (x := x2 * y1) (by omega) (by omega)]
  rw [wr (x := x1 * x1 + x2 * x2) (by omega) (by omega), wr (x := y1 * y1 + y2 * y2) (by omega) (by omega), wr (x := z1 * z1 + z2 * z2) (by omega) (by omega), wr (x := y1 * z2 - y2 * z1) (by omega) (by omega), wr (x := x1 * z2 - x2 * z1) (by omega) (by omega), wr (x := x1 * y2 - x2 * y1) (by omega) (by omega)]
  generalize (x1 * x1 + x2 * x2) * (y1 * z2 - y2 * z1) = t1 at *
  generalize (y1 * y1 + y2 * y2) * (x1 * z2 - x2 * z1) = t2 at *
  generalize (z1 * z1 + z2 * z2) * (x1 * y2 - x2 * y1) = t3 at *
  rw [wr (x := t1) (by omega) (by omega), wr (x := t2) (by omega) (by omega), wr (x := t3) (by omega) (by omega), wr (x := t1 - t2) (by omega) (by omega), wr (x := t1 - t2 + t3) (by omega) (by omega)]
def sp_spec_inCircle : PSpec := ⟨fun xs => match xs with | [.agg [.num .i64 a1, .num .i64 a2], .agg [.num .i64 b1, .num .i64 b2], .agg [.num .i64 c1, .num .i64 c2], .agg [.num .i64 d1, .num .i64 d2]] => ((fun (a : Pt) (b : Pt) (c : Pt) (d : Pt) => Vp a) (a1, a2) (b1, b2) (c1, c2) (d1, d2)) ∧ ((fun (a : Pt) (b : Pt) (c : Pt) (d : Pt) => Vp b) (a1, a2) (b1, b2) (c1, c2) (d1, d2)) ∧ ((fun (a : Pt) (b : Pt) (c : Pt) (d : Pt) => Vp c) (a1, a2) (b1, b2) (c1, c2) (d1, d2)) ∧ ((fun (a : Pt) (b : Pt) (c : Pt) (d : Pt) => Vp d) (a1, a2) (b1, b2) (c1, c2) (d1, d2)) | _ => False, fun xs => match xs with | [.agg [.num _ a1, .num _ a2], .agg [.num _ b1, .num _ b2], .agg [.num _ c1, .num _ c2], .agg [.num _ d1, .num _ d2]] => (fun (a : Pt) (b : Pt) (c : Pt) (d : Pt) => .num .i64 (sgnI (inC a b c d))) (a1, a2) (b1, b2) (c1, c2) (d1, d2) | _ => .junk, false⟩
theorem gk_spec_inCircle : ∀ args, sp_spec_inCircle.pre args → ICall Try.prog 58 args (sp_spec_inCircle.val args) := by
  intro args h
  unfold sp_spec_inCircle at h ⊢; simp only at h ⊢; split at h
  · obtain ⟨h0, h1, h2, h3⟩ := h
    simp only [toPs_enc] at *
    exact c_spec_inCircle (_, _) (_, _) (_, _) (_, _) h0 h1 h2 h3
  · exact h.elim
theorem en_spec_inCircle : Enters Try.prog 58 := enters_of Try.func58 (by kernel_rfl) rfl

theorem inC_way (a b c d : Pt) : dotP (wayP a d) (wayP a d) * crossP (wayP b d) (wayP c d) + dotP (wayP b d) (wayP b d) * crossP (wayP c d) (wayP a d) + dotP (wayP c d) (wayP c d) * crossP (wayP a d) (wayP b d) = inC a b c d := by
  unfold dotP crossP wayP inC
  exact inC_alt _ _ _ _ _ _
theorem way_vp {a d : Pt} (ha : Vp a) (hd : Vp d) : (-2000 ≤ (wayP a d).1 ∧ (wayP a d).1 ≤ 2000) ∧ (-2000 ≤ (wayP a d).2 ∧ (wayP a d).2 ≤ 2000) := ⟨vp_sub ha.1 hd.1, vp_sub ha.2 hd.2⟩
theorem way_nine {p : Pt} (h : (-2000 ≤ p.1 ∧ p.1 ≤ 2000) ∧ (-2000 ≤ p.2 ∧ p.2 ≤ 2000)) : Sm9 p := by unfold Sm9; omega
def g_impl_inCircle : List (Nat × PSpec) := [(62, sp_impl_Point_minus), (63, sp_impl_Point_dot), (80, sp_impl_Point_cross), (81, sp_impl_sign), (49, sp_impl_turn)]
theorem gok_impl_inCircle : GOK Try.prog g_impl_inCircle := gok_cons gk_impl_Point_minus en_impl_Point_minus (gok_cons gk_impl_Point_dot en_impl_Point_dot (gok_cons gk_impl_Point_cross en_impl_Point_cross (gok_cons gk_impl_sign en_impl_sign (gok_cons gk_impl_turn en_impl_turn (gok0)))))
theorem lk_impl_inCircle_impl_Point_minus : lkG g_impl_inCircle 62 = sp_impl_Point_minus := rfl
theorem lk_impl_inCircle_impl_Point_dot : lkG g_impl_inCircle 63 = sp_impl_Point_dot := rfl
theorem lk_impl_inCircle_impl_Point_cross : lkG g_impl_inCircle 80 = sp_impl_Point_cross := rfl
theorem lk_impl_inCircle_impl_sign : lkG g_impl_inCircle 81 = sp_impl_sign := rfl
theorem lk_impl_inCircle_impl_turn : lkG g_impl_inCircle 49 = sp_impl_turn := rfl
def h_impl_inCircle : List (Nat × HSpec) := []
theorem hok_impl_inCircle : HOK Try.prog h_impl_inCircle := hok0
theorem c_impl_inCircle (a : Pt) (b : Pt) (c : Pt) (d : Pt) (ha : Vp a) (hb : Vp b) (hc : Vp c) (hd : Vp d) : ICall Try.prog 52 [encP a, encP b, encP c, encP d] (.num .i64 (sgnI (inC a b c d) * sgnI (turn a b c))) := by
  refine icall_V (G := g_impl_inCircle) (H := []) [(1, [(2, 3), (2, 4), (0, 5), (1, 5), (2, 6), (5, 6), (2, 7), (5, 7), (0, 8), (1, 8), (2, 8), (3, 8), (4, 8), (0, 9), (1, 9), (2, 9), (3, 9), (4, 9), (5, 9), (6, 9), (7, 9), (8, 9), (0, 10), (1, 10), (2, 10), (3, 10), (4, 10), (5, 10), (6, 10), (7, 10), (8, 10), (9, 10), (0, 11), (1, 11), (2, 11), (3, 11), (4, 11), (5, 11), (6, 11), (7, 11), (8, 11), (9, 11), (10, 11), (3, 12), (4, 12), (5, 12), (6, 12), (7, 12), (6, 13), (7, 13), (8, 13)]), (2, [(2, 3), (2, 4), (0, 5), (1, 5), (2, 7), (5, 7), (2, 8), (5, 8), (0, 9), (1, 9), (2, 9), (3, 9), (4, 9), (6, 9), (2, 10), (5, 10), (9, 10), (2, 11), (5, 11), (9, 11), (0, 12), (1, 12), (2, 12), (3, 12), (4, 12), (5, 12), (6, 12), (7, 12), (8, 12), (2, 13), (5, 13), (2, 14), (5, 14), (9, 14), (12, 14), (2, 15), (5, 15), (9, 15), (12, 15), (2, 16), (5, 16), (9, 16), (12, 16), (0, 17), (1, 17), (2, 17), (3, 17), (4, 17), (5, 17), (6, 17), (7, 17), (8, 17), (9, 17), (10, 17), (11, 17), (13, 17), (14, 17), (2, 18), (5, 18), (9, 18), (12, 18), (17, 18), (2, 19), (5, 19), (9, 19), (12, 19), (17, 19), (0, 20), (1, 20), (2, 20), (3, 20), (4, 20), (5, 20), (6, 20), (7, 20), (8, 20), (9, 20), (10, 20), (11, 20), (12, 20), (13, 20), (14, 20), (15, 20), (16, 20), (2, 21), (5, 21), (9, 21), (12, 21), (2, 22), (5, 22), (9, 22), (12, 22), (17, 22), (20, 22)]), (3, [(1, 2), (1, 3), (1, 4), (0, 5), (0, 6), (1, 6), (2, 6), (3, 6), (4, 6), (5, 7)])] tabOK mixed gok_impl_inCircle hok_impl_inCircle Try.func52 rfl Try.ntmps52 Try.results52 rfl (by kernel_rfl) fun F hN hlen => ?_
  have sa := ha.sm
  have sb := hb.sm
  have sc := hc.sm
  have ax := vp_sub ha.1 hd.1
  have ay := vp_sub ha.2 hd.2
  have bx := vp_sub hb.1 hd.1
  have b_ := vp_sub hb.2 hd.2
  have cx := vp_sub hc.1 hd.1
  have cy := vp_sub hc.2 hd.2
  have wa := way_vp ha hd
  have wb := way_vp hb hd
  have wc := way_vp hc hd
  have na := way_nine wa
  have nb := way_nine wb
  have nc := way_nine wc
  have hi := inC_way a b c d
  have hsg := sg_mulI (inC a b c d) (turn a b c)
  have k1 : -4611686018427387904 < a.1 - d.1 ∧ a.1 - d.1 < 4611686018427387904 := by omega
  have k2 : -4611686018427387904 < a.2 - d.2 ∧ a.2 - d.2 < 4611686018427387904 := by omega
  have k3 : -4611686018427387904 < b.1 - d.1 ∧ b.1 - d.1 < 4611686018427387904 := by omega
  have k4 : -4611686018427387904 < b.2 - d.2 ∧ b.2 - d.2 < 4611686018427387904 := by omega
  have k5 : -4611686018427387904 < c.1 - d.1 ∧ c.1 - d.1 < 4611686018427387904 := by omega
  have k6 : -4611686018427387904 < c.2 - d.2 ∧ c.2 - d.2 < 4611686018427387904 := by omega
  obtain ⟨p, hp⟩ : ∃ p, wayP a d = p := ⟨_, rfl⟩
  obtain ⟨q, hq⟩ : ∃ q, wayP b d = q := ⟨_, rfl⟩
  obtain ⟨r, hr⟩ : ∃ r, wayP c d = r := ⟨_, rfl⟩
  rw [hp] at wa na hi
  rw [hq] at wb nb hi
  rw [hr] at wc nc hi
  have l1 := mulb wb.1 wc.2
  have l2 := mulb wb.2 wc.1
  have l3 := mulb wc.1 wa.2
  have l4 := mulb wc.2 wa.1
  have l5 := mulb wa.1 wb.2
  have l6 := mulb wa.2 wb.1
  have d1 := det_bd wa.1 wa.2 wb.1 wc.2 wb.2 wc.1
  have d2 := det_bd wb.1 wb.2 wc.1 wa.2 wc.2 wa.1
  have d3 := det_bd wc.1 wc.2 wa.1 wb.2 wa.2 wb.1
  have w1 : IntKind.i64.wrap (dotP p p * crossP q r) = dotP p p * crossP q r := by unfold dotP crossP; exact wr (by omega) (by omega)
  have w2 : IntKind.i64.wrap (dotP q q * crossP r p) = dotP q q * crossP r p := by unfold dotP crossP; exact wr (by omega) (by omega)
  have w3 : IntKind.i64.wrap (dotP r r * crossP p q) = dotP r r * crossP p q := by unfold dotP crossP; exact wr (by omega) (by omega)
  have w4 : IntKind.i64.wrap (dotP p p * crossP q r + dotP q q * crossP r p) = dotP p p * crossP q r + dotP q q * crossP r p := by unfold dotP crossP; exact wr (by omega) (by omega)
  have w5 : IntKind.i64.wrap (dotP p p * crossP q r + dotP q q * crossP r p + dotP r r * crossP p q) = inC a b c d := by rw [← hi]; unfold dotP crossP; exact wr (by omega) (by omega)
  simp only [V_seq, V_ret, V_region, V_draw, drawW, WS_nil, WS_cons, pairsOf, W_nil, W_cons, effOp2, effOp3, WI_nil, WI_cons, KN_seq, KXr_nil, QE, dynOK, indB, farB, seeB, see, isStore, freshB, freshK, freshK1, ownId, heapy, effOp, effPure, effNew, effAlloc, effBox, effStore, effCall, giveUp, hasAll, skipE, pureV, storeV, binV, partV, loadV, over, solid, IV.cells, ofC, strip, lkT, lkH, ISt.app, opI, gO, gB, allB, gval, wrapG, dstOK, setD, mentTm, mentHp, IV.ment, IV.mentL, oneI, lendV, lendP, lent, lentP, idsV, idsL, lkHS, flat, flatL, clean, cleanL, callArgs, callFn, allLent, enumT, Gives, Ideal.Fin, conv, conv0, Op.operands, Call.operands, List.append_toArray, reduceIte, reduceCtorEq, cond_true, cond_false, Bool.or_false, Bool.or_true, Bool.and_true, Bool.and_false, Bool.true_and, Bool.and_eq_true, Bool.not_true, Bool.not_false, Nat.reduceAdd, Nat.reduceMul, Nat.reduceLT, Nat.reduceLeDiff, Nat.reduceEqDiff, Nat.reduceBEq, Nat.zero_add, true_and, and_true, and_false, and_self, implies_true, forall_const, List.map_cons, List.map_nil, List.nil_append, List.cons_append, List.append_nil, List.all_cons, List.all_nil, List.getD_cons_zero, List.getD_cons_succ, List.length_cons, List.length_nil, List.take_succ_cons, List.take_zero, List.take_nil, List.drop_succ_cons, List.drop_zero, List.drop_nil, ex_clo, or_self, tab34, hN, pe, encP, lk_impl_inCircle_impl_Point_minus, lk_impl_inCircle_impl_Point_dot, lk_impl_inCircle_impl_Point_cross, lk_impl_inCircle_impl_sign, lk_impl_inCircle_impl_turn, sp_impl_Point_minus, sp_impl_Point_dot, sp_impl_Point_cross, sp_impl_sign, sp_impl_turn, k1, k2, k3, k4, k5, k6, hp, hq, hr, na, nb, nc, w1, w2, w3, w4, w5, sa, sb, sc, hsg]
  omega
def sp_impl_inCircle : PSpec := ⟨fun xs => match xs with | [.agg [.num .i64 a1, .num .i64 a2], .agg [.num .i64 b1, .num .i64 b2], .agg [.num .i64 c1, .num .i64 c2], .agg [.num .i64 d1, .num .i64 d2]] => ((fun (a : Pt) (b : Pt) (c : Pt) (d : Pt) => Vp a) (a1, a2) (b1, b2) (c1, c2) (d1, d2)) ∧ ((fun (a : Pt) (b : Pt) (c : Pt) (d : Pt) => Vp b) (a1, a2) (b1, b2) (c1, c2) (d1, d2)) ∧ ((fun (a : Pt) (b : Pt) (c : Pt) (d : Pt) => Vp c) (a1, a2) (b1, b2) (c1, c2) (d1, d2)) ∧ ((fun (a : Pt) (b : Pt) (c : Pt) (d : Pt) => Vp d) (a1, a2) (b1, b2) (c1, c2) (d1, d2)) | _ => False, fun xs => match xs with | [.agg [.num _ a1, .num _ a2], .agg [.num _ b1, .num _ b2], .agg [.num _ c1, .num _ c2], .agg [.num _ d1, .num _ d2]] => (fun (a : Pt) (b : Pt) (c : Pt) (d : Pt) => .num .i64 (sgnI (inC a b c d) * sgnI (turn a b c))) (a1, a2) (b1, b2) (c1, c2) (d1, d2) | _ => .junk, false⟩
theorem gk_impl_inCircle : ∀ args, sp_impl_inCircle.pre args → ICall Try.prog 52 args (sp_impl_inCircle.val args) := by
  intro args h
  unfold sp_impl_inCircle at h ⊢; simp only at h ⊢; split at h
  · obtain ⟨h0, h1, h2, h3⟩ := h
    simp only [toPs_enc] at *
    exact c_impl_inCircle (_, _) (_, _) (_, _) (_, _) h0 h1 h2 h3
  · exact h.elim
theorem en_impl_inCircle : Enters Try.prog 52 := enters_of Try.func52 (by kernel_rfl) rfl

end Go.Proofs.Yteaanfpkakaaoaa
