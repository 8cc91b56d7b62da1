/- Contracts: Delaunay triangles; the exact law on them. -/
import Derived.Test.YtmcpjnaedgpenaaB17
import Derived.Test.YtmcpjnaedgpenaaB20
import Derived.Test.YtmcpjnaedgpenaaPl10
set_option linter.unusedVariables false
set_option linter.unusedSimpArgs false
set_option maxHeartbeats 1600000
set_option maxRecDepth 100000
namespace Go.Proofs.Ytmcpjnaedgpenaa
open Go Go.Ideal Go.Pl Go.Sort

/-- A point that is near enough for the products of four coordinates. -/
def Vp (p : Pt) : Prop := (-1000 ≤ p.1 ∧ p.1 ≤ 1000) ∧ (-1000 ≤ p.2 ∧ p.2 ≤ 1000)
theorem okP_vp {p : Pt} (h : okP p = true) : Vp p := by
  simp only [okP, inR, Bool.and_eq_true, decide_eq_true_eq] at h
  exact h
theorem Vp.sm {p : Pt} (h : Vp p) : Sm p := by unfold Vp at h; unfold Sm sm1; omega
theorem okPs_vp {l : List Pt} (h : okPs l = true) {i : Nat} (hi : i < l.length) : Vp (pAt l i) := by
  simp only [okPs, Bool.and_eq_true, List.all_eq_true] at h
  refine okP_vp (h.1 _ ?_)
  rw [pAt, List.getD, List.getElem?_eq_getElem hi]; exact List.getElem_mem hi
theorem vp_sub {x y : Int} (hx : -1000 ≤ x ∧ x ≤ 1000) (hy : -1000 ≤ y ∧ y ≤ 1000) : -2000 ≤ x - y ∧ x - y ≤ 2000 := by omega
theorem det_bd {x y z w u v : Int} (hx : -2000 ≤ x ∧ x ≤ 2000) (hy : -2000 ≤ y ∧ y ≤ 2000) (hz : -2000 ≤ z ∧ z ≤ 2000) (hw : -2000 ≤ w ∧ w ≤ 2000) (hu : -2000 ≤ u ∧ u ≤ 2000) (hv : -2000 ≤ v ∧ v ≤ 2000) :
    -64000000000000 ≤ (x * x + y * y) * (z * w - u * v) ∧ (x * x + y * y) * (z * w - u * v) ≤ 64000000000000 := by
  have h1 := mulb hx hx
  have h2 := mulb hy hy
  have h3 := mulb hz hw
  have h4 := mulb hu hv
  have h5 := mulb (x := x * x + y * y) (y := z * w - u * v) (A := 8000000) (B := 8000000) (by omega) (by omega)
  omega

def g_spec_inCircle : List (Nat × PSpec) := [(115, sp_spec_sign)]
theorem gok_spec_inCircle : GOK Try.prog g_spec_inCircle := gok_cons gk_spec_sign en_spec_sign (gok0)
theorem lk_spec_inCircle_spec_sign : lkG g_spec_inCircle 115 = sp_spec_sign := rfl
def h_spec_inCircle : List (Nat × HSpec) := []
theorem hok_spec_inCircle : HOK Try.prog h_spec_inCircle := hok0
theorem c_spec_inCircle (a : Pt) (b : Pt) (c : Pt) (d : Pt) (ha : Vp a) (hb : Vp b) (hc : Vp c) (hd : Vp d) : ICall Try.prog 66 [encP a, encP b, encP c, encP d] (.num .i64 (sgnI (inC a b c d))) := by
  refine icall_V (G := g_spec_inCircle) (H := []) [] tabOK mixed gok_spec_inCircle hok_spec_inCircle Try.func66 rfl Try.ntmps66 Try.results66 rfl (by kernel_rfl) fun F hN hlen => ?_
  have ax := vp_sub ha.1 hd.1
  have ay := vp_sub ha.2 hd.2
  have bx := vp_sub hb.1 hd.1
  have b_ := vp_sub hb.2 hd.2
  have cx := vp_sub hc.1 hd.1
  have cy := vp_sub hc.2 hd.2
  have i0 : inC a b c d = ((a.1 - d.1) * (a.1 - d.1) + (a.2 - d.2) * (a.2 - d.2)) * ((b.1 - d.1) * (c.2 - d.2) - (b.2 - d.2) * (c.1 - d.1)) - ((b.1 - d.1) * (b.1 - d.1) + (b.2 - d.2) * (b.2 - d.2)) * ((a.1 - d.1) * (c.2 - d.2) - (a.2 - d.2) * (c.1 - d.1)) + ((c.1 - d.1) * (c.1 - d.1) + (c.2 - d.2) * (c.2 - d.2)) * ((a.1 - d.1) * (b.2 - d.2) - (a.2 - d.2) * (b.1 - d.1)) := rfl
  have u1 : IntKind.i64.wrap (a.1 - d.1) = a.1 - d.1 := wr (by omega) (by omega)
  have u2 : IntKind.i64.wrap (a.2 - d.2) = a.2 - d.2 := wr (by omega) (by omega)
  have u3 : IntKind.i64.wrap (b.1 - d.1) = b.1 - d.1 := wr (by omega) (by omega)
  have u4 : IntKind.i64.wrap (b.2 - d.2) = b.2 - d.2 := wr (by omega) (by omega)
  have u5 : IntKind.i64.wrap (c.1 - d.1) = c.1 - d.1 := wr (by omega) (by omega)
  have u6 : IntKind.i64.wrap (c.2 - d.2) = c.2 - d.2 := wr (by omega) (by omega)
  simp only [V_seq, V_ret, V_region, W_nil, W_cons, effOp2, KN_seq, KXr_nil, QE, effOp, effPure, effNew, effBox, effCall, giveUp, hasAll, skipE, pureV, binV, partV, loadV, faddrV, solid, IV.cells, ofC, strip, lkT, lkH, ISt.app, opI, gO, gB, allB, gval, wrapG, dstOK, setD, mentTm, mentHp, IV.ment, IV.mentL, oneI, lendV, lendP, lent, lentP, idsV, idsL, lkHS, flat, clean, callArgs, callFn, allLent, enumT, Gives, Ideal.Fin, conv, conv0, IBlk.shape, Op.operands, reduceIte, reduceCtorEq, cond_true, Bool.or_false, Bool.and_true, Bool.not_true, Nat.reduceAdd, Nat.reduceLT, Nat.reduceLeDiff, Nat.reduceEqDiff, Nat.reduceBEq, Nat.add_zero, Nat.zero_add, true_and, and_true, and_self, implies_true, List.map_cons, List.map_nil, List.nil_append, List.cons_append, List.append_nil, List.all_cons, List.all_nil, Option.map_some, List.getD_cons_zero, List.getD_cons_succ, List.length_cons, List.length_nil, List.take_succ_cons, List.take_zero, List.take_nil, List.drop_succ_cons, List.drop_zero, ex_clo, or_self, tab3, tab30, hN, encP, lk_spec_inCircle_spec_sign, sp_spec_sign, u1, u2, u3, u4, u5, u6]
  rw [i0]
  generalize a.1 - d.1 = x1 at *
  generalize a.2 - d.2 = x2 at *
  generalize b.1 - d.1 = y1 at *
  generalize b.2 - d.2 = y2 at *
  generalize c.1 - d.1 = z1 at *
  generalize c.2 - d.2 = z2 at *
  have m1 := mulb ax ax
  have m2 := mulb ay ay
  have m3 := mulb bx bx
  have m4 := mulb b_ b_
  have m5 := mulb cx cx
  have m6 := mulb cy cy
  have m7 := mulb bx cy
  have m8 := mulb b_ cx
  have m9 := mulb ax cy
  have mA := mulb ay cx
  have mB := mulb ax b_
  have mC := mulb ay bx
  have d1 := det_bd ax ay bx cy b_ cx
  have d2 := det_bd bx b_ ax cy ay cx
  have d3 := det_bd cx cy ax b_ ay bx
  rw [wr (x := x1 * x1) (by omega) (by omega), wr (x := x2 * x2) (by omega) (by omega), wr (x := y1 * y1) (by omega) (by omega), wr (x := y2 * y2) (by omega) (by omega), wr (x := z1 * z1) (by omega) (by omega), wr (x := z2 * z2) (by omega) (by omega)]
  rw [wr (x := y1 * z2) (by omega) (by omega), wr (x := y2 * z1) (by omega) (by omega), wr (x := x1 * z2) (by omega) (by omega), wr (x := x2 * z1) (by omega) (by omega), wr (x := x1 * y2) (by omega) (by omega), wr (x := x2 * y1) (by omega) (by omega)]
  rw [wr (x := x1 * x1 + x2 * x2) (by omega) (by omega), wr (x := y1 * y1 + y2 * y2) (by omega) (by omega), wr (x := z1 * z1 + z2 * z2) (by omega) (by omega), wr (x := y1 * z2 - y2 * z1) (by omega) (by omega), wr (x := x1 * z2 - x2 * z1) (by omega) (by omega), wr (x := x1 * y2 - x2 * y1) (by omega) (by omega)]
  generalize (x1 * x1 + x2 * x2) * (y1 * z2 - y2 * z1) = t1 at *
  generalize (y1 * y1 + y2 * y2) * (x1 * z2 - x2 * z1) = t2 at *
  generalize (z1 * z1 + z2 * z2) * (x1 * y2 - x2 * y1) = t3 at *
  rw [wr (x := t1) (by omega) (by omega), wr (x := t2) (by omega) (by omega), wr (x := t3) (by omega) (by omega), wr (x := t1 - t2) (by omega) (by omega), wr (x := t1 - t2 + t3) (by omega) (by omega)]
def sp_spec_inCircle : PSpec := ⟨fun xs => match xs with | [.agg [.num .i64 a1, .num .i64 a2], .agg [.num .i64 b1, .num .i64 b2], .agg [.num .i64 c1, .num .i64 c2], .agg [.num .i64 d1, .num .i64 d2]] => ((fun (a : Pt) (b : Pt) (c : Pt) (d : Pt) => Vp a) (a1, a2) (b1, b2) (c1, c2) (d1, d2)) ∧ ((fun (a : Pt) (b : Pt) (c : Pt) (d : Pt) => Vp b) (a1, a2) (b1, b2) (c1, c2) (d1, d2)) ∧ ((fun (a : Pt) (b : Pt) (c : Pt) (d : Pt) => Vp c) (a1, a2) (b1, b2) (c1, c2) (d1, d2)) ∧ ((fun (a : Pt) (b : Pt) (c : Pt) (d : Pt) => Vp d) (a1, a2) (b1, b2) (c1, c2) (d1, d2)) | _ => False, fun xs => match xs with | [.agg [.num _ a1, .num _ a2], .agg [.num _ b1, .num _ b2], .agg [.num _ c1, .num _ c2], .agg [.num _ d1, .num _ d2]] => (fun (a : Pt) (b : Pt) (c : Pt) (d : Pt) => .num .i64 (sgnI (inC a b c d))) (a1, a2) (b1, b2) (c1, c2) (d1, d2) | _ => .junk, false⟩
theorem gk_spec_inCircle : ∀ args, sp_spec_inCircle.pre args → ICall Try.prog 66 args (sp_spec_inCircle.val args) := by
  intro args h
  unfold sp_spec_inCircle at h ⊢; simp only at h ⊢; split at h
  · obtain ⟨h0, h1, h2, h3⟩ := h
    simp only [toPs_enc] at *
    exact c_spec_inCircle (_, _) (_, _) (_, _) (_, _) h0 h1 h2 h3
  · exact h.elim
theorem en_spec_inCircle : Enters Try.prog 66 := enters_of Try.func66 (by kernel_rfl) rfl

theorem inC_way (a b c d : Pt) : dotP (wayP a d) (wayP a d) * crossP (wayP b d) (wayP c d) + dotP (wayP b d) (wayP b d) * crossP (wayP c d) (wayP a d) + dotP (wayP c d) (wayP c d) * crossP (wayP a d) (wayP b d) = inC a b c d := by
  unfold dotP crossP wayP inC
  exact inC_alt _ _ _ _ _ _
theorem way_vp {a d : Pt} (ha : Vp a) (hd : Vp d) : (-2000 ≤ (wayP a d).1 ∧ (wayP a d).1 ≤ 2000) ∧ (-2000 ≤ (wayP a d).2 ∧ (wayP a d).2 ≤ 2000) := ⟨vp_sub ha.1 hd.1, vp_sub ha.2 hd.2⟩
theorem way_nine {p : Pt} (h : (-2000 ≤ p.1 ∧ p.1 ≤ 2000) ∧ (-2000 ≤ p.2 ∧ p.2 ≤ 2000)) : Sm9 p := by unfold Sm9; omega
def g_impl_inCircle : List (Nat × PSpec) := [(119, sp_impl_Point_minus), (120, sp_impl_Point_dot), (121, sp_impl_Point_cross), (88, sp_impl_sign), (89, sp_impl_turn)]
theorem gok_impl_inCircle : GOK Try.prog g_impl_inCircle := gok_cons gk_impl_Point_minus en_impl_Point_minus (gok_cons gk_impl_Point_dot en_impl_Point_dot (gok_cons gk_impl_Point_cross en_impl_Point_cross (gok_cons gk_impl_sign en_impl_sign (gok_cons gk_impl_turn en_impl_turn (gok0)))))
theorem lk_impl_inCircle_impl_Point_minus : lkG g_impl_inCircle 119 = sp_impl_Point_minus := rfl
theorem lk_impl_inCircle_impl_Point_dot : lkG g_impl_inCircle 120 = sp_impl_Point_dot := rfl
theorem lk_impl_inCircle_impl_Point_cross : lkG g_impl_inCircle 121 = sp_impl_Point_cross := rfl
theorem lk_impl_inCircle_impl_sign : lkG g_impl_inCircle 88 = sp_impl_sign := rfl
theorem lk_impl_inCircle_impl_turn : lkG g_impl_inCircle 89 = sp_impl_turn := rfl
def h_impl_inCircle : List (Nat × HSpec) := []
theorem hok_impl_inCircle : HOK Try.prog h_impl_inCircle := hok0
theorem c_impl_inCircle (a : Pt) (b : Pt) (c : Pt) (d : Pt) (ha : Vp a) (hb : Vp b) (hc : Vp c) (hd : Vp d) : ICall Try.prog 73 [encP a, encP b, encP c, encP d] (.num .i64 (sgnI (inC a b c d) * sgnI (turn a b c))) := by
  refine icall_V (G := g_impl_inCircle) (H := []) [(1, [(2, 3), (2, 4), (0, 5), (1, 5), (2, 6), (5, 6), (2, 7), (5, 7), (0, 8), (1, 8), (2, 8), (3, 8), (4, 8), (0, 9), (1, 9), (2, 9), (3, 9), (4, 9), (5, 9), (6, 9), (7, 9), (8, 9), (0, 10), (1, 10), (2, 10), (3, 10), (4, 10), (5, 10), (6, 10), (7, 10), (8, 10), (9, 10), (0, 11), (1, 11), (2, 11), (3, 11), (4, 11), (5, 11), (6, 11), (7, 11), (8, 11), (9, 11), (10, 11), (3, 12), (4, 12), (5, 12), (6, 12), (7, 12), (6, 13), (7, 13), (8, 13)]), (2, [(2, 3), (2, 4), (0, 5), (1, 5), (2, 7), (5, 7), (2, 8), (5, 8), (0, 9), (1, 9), (2, 9), (3, 9), (4, 9), (6, 9), (2, 10), (5, 10), (9, 10), (2, 11), (5, 11), (9, 11), (0, 12), (1, 12), (2, 12), (3, 12), (4, 12), (5, 12), (6, 12), (7, 12), (8, 12), (2, 13), (5, 13), (2, 14), (5, 14), (9, 14), (12, 14), (2, 15), (5, 15), (9, 15), (12, 15), (2, 16), (5, 16), (9, 16), (12, 16), (0, 17), (1, 17), (2, 17), (3, 17), (4, 17), (5, 17), (6, 17), (7, 17), (8, 17), (9, 17), (10, 17), (11, 17), (13, 17), (14, 17), (2, 18), (5, 18), (9, 18), (12, 18), (17, 18), (2, 19), (5, 19), (9, 19), (12, 19), (17, 19), (0, 20), (1, 20), (2, 20), (3, 20), (4, 20), (5, 20), (6, 20), (7, 20), (8, 20), (9, 20), (10, 20), (11, 20), (12, 20), (13, 20), (14, 20), (15, 20), (16, 20), (2, 21), (5, 21), (9, 21), (12, 21), (2, 22), (5, 22), (9, 22), (12, 22), (17, 22), (20, 22)]), (3, [(1, 2), (1, 3), (1, 4), (0, 5), (0, 6), (1, 6), (2, 6), (3, 6), (4, 6), (5, 7)])] tabOK mixed gok_impl_inCircle hok_impl_inCircle Try.func73 rfl Try.ntmps73 Try.results73 rfl (by kernel_rfl) fun F hN hlen => ?_
  have sa := ha.sm
  have sb := hb.sm
  have sc := hc.sm
  have ax := vp_sub ha.1 hd.1
  have ay := vp_sub ha.2 hd.2
  have bx := vp_sub hb.1 hd.1
  have b_ := vp_sub hb.2 hd.2
  have cx := vp_sub hc.1 hd.1
  have cy := vp_sub hc.2 hd.2
  have wa := way_vp ha hd
  have wb := way_vp hb hd
  have wc := way_vp hc hd
  have na := way_nine wa
  have nb := way_nine wb
  have nc := way_nine wc
  have hi := inC_way a b c d
  have hsg := sg_mul (inC a b c d) (turn a b c)
  have k1 : -4611686018427387904 < a.1 - d.1 ∧ a.1 - d.1 < 4611686018427387904 := by omega
  have k2 : -4611686018427387904 < a.2 - d.2 ∧ a.2 - d.2 < 4611686018427387904 := by omega
  have k3 : -4611686018427387904 < b.1 - d.1 ∧ b.1 - d.1 < 4611686018427387904 := by omega
  have k4 : -4611686018427387904 < b.2 - d.2 ∧ b.2 - d.2 < 4611686018427387904 := by omega
  have k5 : -4611686018427387904 < c.1 - d.1 ∧ c.1 - d.1 < 4611686018427387904 := by omega
  have k6 : -4611686018427387904 < c.2 - d.2 ∧ c.2 - d.2 < 4611686018427387904 := by omega
  obtain ⟨p, hp⟩ : ∃ p, wayP a d = p := ⟨_, rfl⟩
  obtain ⟨q, hq⟩ : ∃ q, wayP b d = q := ⟨_, rfl⟩
  obtain ⟨r, hr⟩ : ∃ r, wayP c d = r := ⟨_, rfl⟩
  rw [hp] at wa na hi
  rw [hq] at wb nb hi
  rw [hr] at wc nc hi
  have l1 := mulb wb.1 wc.2
  have l2 := mulb wb.2 wc.1
  have l3 := mulb wc.1 wa.2
  have l4 := mulb wc.2 wa.1
  have l5 := mulb wa.1 wb.2
  have l6 := mulb wa.2 wb.1
  have d1 := det_bd wa.1 wa.2 wb.1 wc.2 wb.2 wc.1
  have d2 := det_bd wb.1 wb.2 wc.1 wa.2 wc.2 wa.1
  have d3 := det_bd wc.1 wc.2 wa.1 wb.2 wa.2 wb.1
  have w1 : IntKind.i64.wrap (dotP p p * crossP q r) = dotP p p * crossP q r := by unfold dotP crossP; exact wr (by omega) (by omega)
  have w2 : IntKind.i64.wrap (dotP q q * crossP r p) = dotP q q * crossP r p := by unfold dotP crossP; exact wr (by omega) (by omega)
  have w3 : IntKind.i64.wrap (dotP r r * crossP p q) = dotP r r * crossP p q := by unfold dotP crossP; exact wr (by omega) (by omega)
  have w4 : IntKind.i64.wrap (dotP p p * crossP q r + dotP q q * crossP r p) = dotP p p * crossP q r + dotP q q * crossP r p := by unfold dotP crossP; exact wr (by omega) (by omega)
  have w5 : IntKind.i64.wrap (dotP p p * crossP q r + dotP q q * crossP r p + dotP r r * crossP p q) = inC a b c d := by rw [← hi]; unfold dotP crossP; exact wr (by omega) (by omega)
  simp only [V_seq, V_ret, V_region, V_draw, drawW, WS_nil, WS_cons, pairsOf, W_nil, W_cons, effOp2, WI_nil, WI_cons, KN_seq, KXr_nil, QE, dynOK, indB, farB, seeB, see, isStore, freshB, heapy, effOp, effPure, effNew, effAlloc, effBox, effStore, effCall, giveUp, hasAll, skipE, pureV, storeV, binV, partV, loadV, over, solid, IV.cells, ofC, strip, lkT, lkH, ISt.app, opI, gO, gB, allB, gval, wrapG, dstOK, setD, mentTm, mentHp, IV.ment, IV.mentL, oneI, lendV, lendP, lent, lentP, idsV, idsL, lkHS, flat, flatL, clean, cleanL, callArgs, callFn, allLent, enumT, Gives, Ideal.Fin, conv, conv0, Op.operands, Call.operands, List.append_toArray, reduceIte, reduceCtorEq, cond_true, cond_false, Bool.or_false, Bool.or_true, Bool.and_true, Bool.and_false, Bool.true_and, Bool.and_eq_true, Bool.not_true, Bool.not_false, Nat.reduceAdd, Nat.reduceLT, Nat.reduceLeDiff, Nat.reduceEqDiff, Nat.reduceBEq, Nat.zero_add, true_and, and_true, and_false, and_self, implies_true, forall_const, List.map_cons, List.map_nil, List.nil_append, List.cons_append, List.append_nil, List.all_cons, List.all_nil, List.getD_cons_zero, List.getD_cons_succ, List.length_cons, List.length_nil, List.take_succ_cons, List.take_zero, List.take_nil, List.drop_succ_cons, List.drop_zero, List.drop_nil, ex_clo, or_self, tab30, hN, pe, encP, lk_impl_inCircle_impl_Point_minus, lk_impl_inCircle_impl_Point_dot, lk_impl_inCircle_impl_Point_cross, lk_impl_inCircle_impl_sign, lk_impl_inCircle_impl_turn, sp_impl_Point_minus, sp_impl_Point_dot, sp_impl_Point_cross, sp_impl_sign, sp_impl_turn, k1, k2, k3, k4, k5, k6, hp, hq, hr, na, nb, nc, w1, w2, w3, w4, w5, sa, sb, sc, hsg]
  omega
def sp_impl_inCircle : PSpec := ⟨fun xs => match xs with | [.agg [.num .i64 a1, .num .i64 a2], .agg [.num .i64 b1, .num .i64 b2], .agg [.num .i64 c1, .num .i64 c2], .agg [.num .i64 d1, .num .i64 d2]] => ((fun (a : Pt) (b : Pt) (c : Pt) (d : Pt) => Vp a) (a1, a2) (b1, b2) (c1, c2) (d1, d2)) ∧ ((fun (a : Pt) (b : Pt) (c : Pt) (d : Pt) => Vp b) (a1, a2) (b1, b2) (c1, c2) (d1, d2)) ∧ ((fun (a : Pt) (b : Pt) (c : Pt) (d : Pt) => Vp c) (a1, a2) (b1, b2) (c1, c2) (d1, d2)) ∧ ((fun (a : Pt) (b : Pt) (c : Pt) (d : Pt) => Vp d) (a1, a2) (b1, b2) (c1, c2) (d1, d2)) | _ => False, fun xs => match xs with | [.agg [.num _ a1, .num _ a2], .agg [.num _ b1, .num _ b2], .agg [.num _ c1, .num _ c2], .agg [.num _ d1, .num _ d2]] => (fun (a : Pt) (b : Pt) (c : Pt) (d : Pt) => .num .i64 (sgnI (inC a b c d) * sgnI (turn a b c))) (a1, a2) (b1, b2) (c1, c2) (d1, d2) | _ => .junk, false⟩
theorem gk_impl_inCircle : ∀ args, sp_impl_inCircle.pre args → ICall Try.prog 73 args (sp_impl_inCircle.val args) := by
  intro args h
  unfold sp_impl_inCircle at h ⊢; simp only at h ⊢; split at h
  · obtain ⟨h0, h1, h2, h3⟩ := h
    simp only [toPs_enc] at *
    exact c_impl_inCircle (_, _) (_, _) (_, _) (_, _) h0 h1 h2 h3
  · exact h.elim
theorem en_impl_inCircle : Enters Try.prog 73 := enters_of Try.func73 (by kernel_rfl) rfl


/-- The points of a triangle. -/
def triA (l : List Pt) (t : Tr) : Pt := pAt l t.1.toNat
def triB (l : List Pt) (t : Tr) : Pt := pAt l t.2.1.toNat
def triC (l : List Pt) (t : Tr) : Pt := pAt l t.2.2.toNat
/-- Are the indices those of points? -/
def idxOK (n : Nat) (t : Tr) : Bool := inR t.1 0 ((n : Int) - 1) && inR t.2.1 0 ((n : Int) - 1) && inR t.2.2 0 ((n : Int) - 1)
theorem idx_facts {n : Nat} {t : Tr} (h : idxOK n t = true) : (0 ≤ t.1 ∧ t.1 < n) ∧ (0 ≤ t.2.1 ∧ t.2.1 < n) ∧ (0 ≤ t.2.2 ∧ t.2.2 < n) := by
  simp only [idxOK, inR, Bool.and_eq_true, decide_eq_true_eq] at h; omega
theorem nat_of {x : Int} (h : 0 ≤ x) : ∃ i : Nat, x = i := ⟨x.toNat, by omega⟩
def g_impl_Triangle_inIndex : List (Nat × PSpec) := [(117, sp_impl_within)]
theorem gok_impl_Triangle_inIndex : GOK Try.prog g_impl_Triangle_inIndex := gok_cons gk_impl_within en_impl_within (gok0)
theorem lk_impl_Triangle_inIndex_impl_within : lkG g_impl_Triangle_inIndex 117 = sp_impl_within := rfl
def h_impl_Triangle_inIndex : List (Nat × HSpec) := []
theorem hok_impl_Triangle_inIndex : HOK Try.prog h_impl_Triangle_inIndex := hok0
theorem c_impl_Triangle_inIndex (t : Tr) (k : Int) (hk : 0 ≤ k ∧ k ≤ 9223372036854775807) : ICall Try.prog 69 [encT t, .num .i64 k] (.bool (idxOK k.toNat t)) := by
  refine icall_V (G := g_impl_Triangle_inIndex) (H := []) [] tabOK mixed gok_impl_Triangle_inIndex hok_impl_Triangle_inIndex Try.func69 rfl Try.ntmps69 Try.results69 rfl (by kernel_rfl) fun F hN hlen => ?_
  obtain ⟨n, rfl⟩ := nat_of hk.1
  have w1 : IntKind.i64.wrap ((n : Int) - 1) = (n : Int) - 1 := wr (by omega) (by omega)
  have hv : idxOK n t = (inR t.1 0 ((n : Int) - 1) && inR t.2.1 0 ((n : Int) - 1) && inR t.2.2 0 ((n : Int) - 1)) := rfl
  cases h1 : inR t.1 0 ((n : Int) - 1) with
  | false =>
    rw [h1] at hv
    simp only [V_seq, V_ret, V_region, W_nil, W_cons, effOp2, KN_seq, KXr_nil, QE, effOp, effPure, effPick, effNew, effBox, effCall, giveUp, hasAll, skipE, pureV, pickV, binV, partV, loadV, faddrV, solid, IV.cells, ofC, strip, lkT, lkH, ISt.app, opI, gO, gB, allB, gval, wrapG, dstOK, setD, mentTm, mentHp, IV.ment, IV.mentL, oneI, lendV, lendP, lent, lentP, idsV, idsL, lkHS, flat, clean, callArgs, callFn, allLent, enumT, Gives, Ideal.Fin, conv, conv0, IBlk.shape, Op.operands, reduceIte, reduceCtorEq, cond_true, cond_false, Bool.or_false, Bool.or_true, Bool.and_true, Bool.false_and, Bool.not_true, Bool.not_false, Nat.reduceAdd, Nat.reduceLT, Nat.reduceLeDiff, Nat.reduceEqDiff, Nat.add_zero, Nat.zero_add, and_true, and_false, and_self, false_implies, implies_true, List.map_cons, List.map_nil, List.nil_append, List.cons_append, List.append_nil, List.all_cons, List.all_nil, Option.map_some, Option.bind_some, List.getElem?_cons_zero, List.getElem?_cons_succ, List.getD_cons_zero, List.getD_cons_succ, List.length_cons, List.length_nil, List.take_succ_cons, List.take_zero, List.take_nil, List.drop_succ_cons, List.drop_zero, ex_clo, bft, or_self, Bool.false_eq_true, tab3, tab64, hN, Int.toNat_natCast, encT, lk_impl_Triangle_inIndex_impl_within, sp_impl_within, w1, h1, hv]
  | true =>
    rw [h1] at hv
    cases h2 : inR t.2.1 0 ((n : Int) - 1) with
    | false =>
      rw [h2] at hv
      simp only [V_seq, V_ret, V_region, W_nil, W_cons, effOp2, KN_seq, KXr_nil, QE, effOp, effPure, effPick, effNew, effBox, effCall, giveUp, hasAll, skipE, pureV, pickV, binV, partV, loadV, faddrV, solid, IV.cells, ofC, strip, lkT, lkH, ISt.app, opI, gO, gB, allB, gval, wrapG, dstOK, setD, mentTm, mentHp, IV.ment, IV.mentL, oneI, lendV, lendP, lent, lentP, idsV, idsL, lkHS, flat, clean, callArgs, callFn, allLent, enumT, Gives, Ideal.Fin, conv, conv0, IBlk.shape, Op.operands, reduceIte, reduceCtorEq, cond_true, cond_false, Bool.or_false, Bool.or_true, Bool.and_true, Bool.and_false, Bool.false_and, Bool.not_true, Bool.not_false, Nat.reduceAdd, Nat.reduceLT, Nat.reduceLeDiff, Nat.reduceEqDiff, Nat.add_zero, Nat.zero_add, beq_self_eq_true, and_true, and_false, and_self, false_implies, implies_true, List.map_cons, List.map_nil, List.nil_append, List.cons_append, List.append_nil, List.all_cons, List.all_nil, Option.map_some, Option.bind_some, List.getElem?_cons_zero, List.getElem?_cons_succ, List.getD_cons_zero, List.getD_cons_succ, List.length_cons, List.length_nil, List.take_succ_cons, List.take_zero, List.take_nil, List.drop_succ_cons, List.drop_zero, ex_clo, bft, or_self, Bool.true_eq_false, Bool.false_eq_true, tab3, tab64, hN, Int.toNat_natCast, encT, lk_impl_Triangle_inIndex_impl_within, sp_impl_within, w1, h1, h2, hv]
    | true =>
      rw [h2] at hv
      simp only [V_seq, V_ret, V_region, W_nil, W_cons, effOp2, KN_seq, KXr_nil, QE, effOp, effPure, effPick, effNew, effBox, effCall, giveUp, hasAll, skipE, pureV, pickV, binV, partV, loadV, faddrV, solid, IV.cells, ofC, strip, lkT, lkH, ISt.app, opI, gO, gB, allB, gval, wrapG, dstOK, setD, mentTm, mentHp, IV.ment, IV.mentL, oneI, lendV, lendP, lent, lentP, idsV, idsL, lkHS, flat, clean, callArgs, callFn, allLent, enumT, Gives, Ideal.Fin, conv, conv0, IBlk.shape, Op.operands, reduceIte, reduceCtorEq, cond_true, Bool.or_false, Bool.and_true, Bool.true_and, Bool.not_true, Nat.reduceAdd, Nat.reduceLT, Nat.reduceLeDiff, Nat.reduceEqDiff, Nat.add_zero, Nat.zero_add, beq_self_eq_true, and_self, implies_true, List.map_cons, List.map_nil, List.nil_append, List.cons_append, List.append_nil, List.all_cons, List.all_nil, Option.map_some, Option.bind_some, List.getElem?_cons_zero, List.getElem?_cons_succ, List.getD_cons_zero, List.getD_cons_succ, List.length_cons, List.length_nil, List.take_succ_cons, List.take_zero, List.take_nil, List.drop_succ_cons, List.drop_zero, ex_clo, or_self, Bool.true_eq_false, tab3, tab64, hN, Int.toNat_natCast, encT, lk_impl_Triangle_inIndex_impl_within, sp_impl_within, w1, h1, h2, hv]
def sp_impl_Triangle_inIndex : PSpec := ⟨fun xs => match xs with | [.agg [.num .i64 t1, .num .i64 t2, .num .i64 t3], .num .i64 k] => ((fun (t : Tr) (k : Int) => 0 ≤ k ∧ k ≤ 9223372036854775807) (t1, t2, t3) k) | _ => False, fun xs => match xs with | [.agg [.num _ t1, .num _ t2, .num _ t3], .num _ k] => (fun (t : Tr) (k : Int) => .bool (idxOK k.toNat t)) (t1, t2, t3) k | _ => .junk, false⟩
theorem gk_impl_Triangle_inIndex : ∀ args, sp_impl_Triangle_inIndex.pre args → ICall Try.prog 69 args (sp_impl_Triangle_inIndex.val args) := by
  intro args h
  unfold sp_impl_Triangle_inIndex at h ⊢; simp only at h ⊢; split at h
  · have h0 := h
    simp only [toPs_enc] at *
    exact c_impl_Triangle_inIndex (_, _, _) _ h0
  · exact h.elim
theorem en_impl_Triangle_inIndex : Enters Try.prog 69 := enters_of Try.func69 (by kernel_rfl) rfl

def g_impl_Triangle_turn : List (Nat × PSpec) := [(89, sp_impl_turn)]
theorem gok_impl_Triangle_turn : GOK Try.prog g_impl_Triangle_turn := gok_cons gk_impl_turn en_impl_turn (gok0)
theorem lk_impl_Triangle_turn_impl_turn : lkG g_impl_Triangle_turn 89 = sp_impl_turn := rfl
def h_impl_Triangle_turn : List (Nat × HSpec) := []
theorem hok_impl_Triangle_turn : HOK Try.prog h_impl_Triangle_turn := hok0
theorem c_impl_Triangle_turn (t : Tr) (l : List Pt) (hi : idxOK l.length t = true) (hm : SmL l) (hsz : l.length ≤ 1000000) : ICall Try.prog 70 [encT t, .sl 2 (encPs l)] (.num .i64 (turn (triA l t) (triB l t) (triC l t))) := by
  refine icall_V (G := g_impl_Triangle_turn) (H := []) [(1, [(0, 15), (1, 15), (2, 15), (3, 15), (5, 15), (6, 15), (7, 15), (8, 15), (10, 15), (11, 15), (12, 15), (13, 15)])] tabOK mixed gok_impl_Triangle_turn hok_impl_Triangle_turn Try.func70 rfl Try.ntmps70 Try.results70 rfl (by kernel_rfl) fun F hN hlen => ?_
  obtain ⟨⟨a0, a1⟩, ⟨b0, b1⟩, ⟨c0, c1⟩⟩ := idx_facts hi
  obtain ⟨t1, t2, t3⟩ := t
  simp only [] at a0 a1 b0 b1 c0 c1
  obtain ⟨i, rfl⟩ := nat_of a0
  obtain ⟨j, rfl⟩ := nat_of b0
  obtain ⟨k, rfl⟩ := nat_of c0
  have el := len_encPs l
  have g1 := getD_encPs (l := l) (i := i) (by omega)
  have g2 := getD_encPs (l := l) (i := j) (by omega)
  have g3 := getD_encPs (l := l) (i := k) (by omega)
  have s1 := hm.at i
  have s2 := hm.at j
  have s3 := hm.at k
  have e1 : triA l ((i : Int), (j : Int), (k : Int)) = pAt l i := rfl
  have e2 : triB l ((i : Int), (j : Int), (k : Int)) = pAt l j := rfl
  have e3 : triC l ((i : Int), (j : Int), (k : Int)) = pAt l k := rfl
  rw [e1, e2, e3]
  simp only [V_seq, V_ret, V_region, V_draw, drawW, WS_nil, pairsOf, W_nil, W_cons, effOp2, WI_nil, WI_cons, KN_seq, KXr_nil, QE, dynOK, indB, farB, freshB, heapy, effOp, effPure, effNew, effBox, effCall, giveUp, hasAll, skipE, pureV, partV, eltV, loadV, faddrV, iaddrV, solid, IV.cells, ofC, strip, lkT, lkH, ISt.app, opI, gO, gB, allB, gval, wrapG, dstOK, setD, mentTm, mentHp, IV.ment, IV.mentL, oneI, lendV, lendP, lent, lentP, idsV, idsL, lkHS, flat, clean, callArgs, callFn, allLent, enumT, Gives, Ideal.Fin, conv, conv0, IBlk.shape, Op.operands, Call.operands, List.append_toArray, reduceIte, reduceCtorEq, cond_true, cond_false, Bool.or_false, Bool.and_true, Bool.and_eq_true, Bool.not_true, Bool.not_false, Nat.reduceAdd, Nat.reduceLT, Nat.reduceLeDiff, Nat.reduceEqDiff, Nat.reduceBEq, Nat.add_zero, Nat.zero_add, ne_eq, not_false_eq_true, true_and, and_true, and_false, and_self, implies_true, forall_const, List.map_cons, List.map_nil, List.nil_append, List.cons_append, List.append_nil, List.all_cons, List.all_nil, Option.map_some, List.getD_cons_zero, List.getD_cons_succ, List.length_cons, List.length_nil, List.take_succ_cons, List.take_zero, List.take_nil, List.drop_succ_cons, List.drop_zero, ex_clo, or_self, tab3, tab23, tab30, tab64, hN, pe, Int.toNat_natCast, encT, lk_impl_Triangle_turn_impl_turn, sp_impl_turn, el, g1, g2, g3, s1, s2, s3]
  omega
def sp_impl_Triangle_turn : PSpec := ⟨fun xs => match xs with | [.agg [.num .i64 t1, .num .i64 t2, .num .i64 t3], .sl 2 les] => isPs les ∧ ((fun (t : Tr) (l : List Pt) => idxOK l.length t = true) (t1, t2, t3) (toPs les)) ∧ ((fun (t : Tr) (l : List Pt) => SmL l) (t1, t2, t3) (toPs les)) ∧ ((fun (t : Tr) (l : List Pt) => l.length ≤ 1000000) (t1, t2, t3) (toPs les)) | _ => False, fun xs => match xs with | [.agg [.num _ t1, .num _ t2, .num _ t3], .sl _ les] => (fun (t : Tr) (l : List Pt) => .num .i64 (turn (triA l t) (triB l t) (triC l t))) (t1, t2, t3) (toPs les) | _ => .junk, false⟩
theorem gk_impl_Triangle_turn : ∀ args, sp_impl_Triangle_turn.pre args → ICall Try.prog 70 args (sp_impl_Triangle_turn.val args) := by
  intro args h
  unfold sp_impl_Triangle_turn at h ⊢; simp only at h ⊢; split at h
  · obtain ⟨h0, h1, h2, h3⟩ := h
    obtain ⟨l0, rfl⟩ := isP_ex h0
    simp only [toPs_enc] at *
    exact c_impl_Triangle_turn (_, _, _) _ h1 h2 h3
  · exact h.elim
theorem en_impl_Triangle_turn : Enters Try.prog 70 := enters_of Try.func70 (by kernel_rfl) rfl


/-- Are the points in order, each once, all valid? -/
def siteB (l : List Pt) : Bool := okPs l && (l == insP l)
def g_slices_Equal_impl_Point_impl_Point : List (Nat × PSpec) := []
theorem gok_slices_Equal_impl_Point_impl_Point : GOK Try.prog g_slices_Equal_impl_Point_impl_Point := gok0
def h_slices_Equal_impl_Point_impl_Point : List (Nat × HSpec) := []
theorem hok_slices_Equal_impl_Point_impl_Point : HOK Try.prog h_slices_Equal_impl_Point_impl_Point := hok0
theorem c_slices_Equal_impl_Point_impl_Point (a : List Pt) (b : List Pt)  : ICall Try.prog 116 [.sl 2 (encPs a), .sl 2 (encPs b)] (.bool (a == b)) := by
  refine icall_V (G := g_slices_Equal_impl_Point_impl_Point) (H := []) [] tabOK mixed gok_slices_Equal_impl_Point_impl_Point hok_slices_Equal_impl_Point_impl_Point Try.func116 rfl Try.ntmps116 Try.results116 rfl (by kernel_rfl) fun F hN hlen => ?_
  have la := hlen 0 2 _ rfl
  have ea := len_encPs a
  have eb := len_encPs b
  rw [ea] at la
  simp only [V_seq, V_region, V_cond, W_nil, W_cons, effOp2, KN_seq, asB, effOp, effPure, pureV, binV, lenV, ofC, strip, lkT, ISt.app, opI, gO, gB, allB, gval, wrapG, dstOK, setD, enumT, Op.operands, Call.operands, List.append_toArray, reduceIte, reduceCtorEq, Nat.reduceLT, Nat.reduceEqDiff, Nat.zero_add, ne_eq, not_false_eq_true, true_and, and_self, implies_true, List.nil_append, List.cons_append, List.append_nil, tab23, hN, ea, eb]
  refine brW_some (fun h => ?_) (fun h => ?_)
  · simp only [V_seq, V_ret, V_region, W_nil, W_cons, effOp2, KN_seq, KXr_nil, KXr_seq, QE, effOp, effPure, pureV, ofC, strip, lkT, lkH, ISt.app, opI, gO, gB, allB, gval, wrapG, dstOK, setD, clean, Gives, Ideal.Fin, conv, conv0, Op.operands, reduceIte, reduceCtorEq, Nat.reduceLT, Nat.reduceEqDiff, true_and, and_true, and_self, implies_true, List.nil_append, List.cons_append, List.append_nil, hN]
    have : a ≠ b := by rintro rfl; simp at h
    simp [this]
  · simp only [V_seq, V_skip, V_block, V_region, W_nil, W_cons, effOp2, KN_seq, effOp, effPure, pureV, lenV, ofC, strip, lkT, ISt.app, opI, gO, gB, allB, gval, wrapG, dstOK, setD, Op.operands, Call.operands, List.append_toArray, reduceIte, reduceCtorEq, Nat.reduceLT, Nat.reduceEqDiff, ne_eq, not_false_eq_true, true_and, and_self, implies_true, List.nil_append, List.cons_append, List.append_nil, tab23, hN, ea]
    have hab : a.length = b.length := by simp at h; omega
    refine V_loop (α := Nat) ⟨tabOK, mixed, gok_slices_Equal_impl_Point_impl_Point, hok_slices_Equal_impl_Point_impl_Point⟩ (by kernel_rfl) (fun i => i ≤ a.length ∧ ∀ j, j < i → pAt a j = pAt b j) (fun i => ⟨[(13, .num .i64 i), (12, .num .i64 a.length), (0, .sl 2 (encPs a)), (1, .sl 2 (encPs b))], []⟩) (fun i => a.length - i) 0 id (by simp) (by simp [SLe, SLe0, convTm, convHp, conv, conv0, lkT, lkH, clean]) ?_
    rintro i ⟨hi, hj⟩
    simp only [V_seq, V_region, V_cond, W_nil, W_cons, effOp2, KN_seq, asB, effOp, effPure, pureV, binV, strip, lkT, ISt.app, opI, gO, gB, allB, gval, wrapG, dstOK, setD, Op.operands, reduceIte, reduceCtorEq, Nat.reduceLT, Nat.reduceEqDiff, true_and, and_self, implies_true, List.nil_append, List.cons_append, List.append_nil, hN]
    refine brW_some (fun h => ?_) (fun h => ?_)
    · have hi' : i < a.length := by simpa using h
      have g1 := getD_encPs hi'
      have g2 := getD_encPs (hab ▸ hi' : i < b.length)
      have hw := wr_succ hi' la
      cases c1 : ((pAt a i).1 == (pAt b i).1 && (pAt a i).2 == (pAt b i).2) with
      | true =>
        have hp : pAt a i = pAt b i := by
          simp only [Bool.and_eq_true, beq_iff_eq] at c1
          exact Prod.ext c1.1 c1.2
        simp only [V_seq, V_skip, V_block, V_region, V_draw, V_cond, brW_false, drawW, pairsOf, W_nil, W_cons, WD_nil, WD_cons, effOp2, KN_seq, KN_block, KN_back, asB, effOp, effPure, pureV, binV, partV, eltV, loadV, iaddrV, ofC, strip, lkT, ISt.app, opI, gO, gB, allB, gval, wrapG, dstOK, setD, eqL, numsOnly, Op.operands, reduceIte, reduceCtorEq, Bool.and_true, Bool.not_true, Nat.reduceAdd, Nat.reduceLT, Nat.reduceLeDiff, Nat.reduceEqDiff, Nat.zero_add, ne_eq, not_false_eq_true, true_and, and_true, and_false, and_self, implies_true, forall_const, List.nil_append, List.cons_append, List.append_nil, List.getD_cons_zero, List.length_cons, List.length_nil, List.take_succ_cons, List.take_nil, List.drop_zero, tab23, tab30, hN, Int.toNat_natCast, ea, eb, g1, g2, hw, c1]
        repeat refine And.intro (by first | omega | (simp; done) | (simp; omega)) ?_
        exact ⟨i + 1, id, ⟨by omega, lt_step hj hp⟩, by simp only []; omega, by simp [SLe, SLe0, convTm, convHp, conv, conv0, lkT, lkH, clean]⟩
      | false =>
        have hne : (a == b) = false := by
          cases hq : (a == b) with
          | false => rfl
          | true => rw [beq_iff_eq] at hq; subst hq; simp at c1
        simp only [V_seq, V_skip, V_ret, V_block, V_region, V_draw, V_cond, brW_true, drawW, pairsOf, W_nil, W_cons, WD_nil, WD_cons, effOp2, KN_seq, KXr_nil, KXr_seq, KXr_block, KXr_back, QE, asB, effOp, effPure, pureV, binV, partV, eltV, loadV, iaddrV, ofC, strip, lkT, lkH, ISt.app, opI, gO, gB, allB, gval, wrapG, dstOK, setD, clean, Gives, Ideal.Fin, conv, conv0, eqL, numsOnly, Op.operands, reduceIte, reduceCtorEq, Bool.and_true, Bool.not_false, Nat.reduceAdd, Nat.reduceLT, Nat.reduceLeDiff, Nat.reduceEqDiff, Nat.zero_add, ne_eq, not_false_eq_true, true_and, and_true, and_false, and_self, implies_true, forall_const, List.nil_append, List.cons_append, List.append_nil, List.getD_cons_zero, List.length_cons, List.length_nil, List.take_succ_cons, List.take_nil, List.drop_zero, tab23, tab30, hN, Int.toNat_natCast, ea, eb, g1, g2, c1, hne]
        omega
    · simp only [V_seq, V_ret, V_exit, V_region, W_nil, W_cons, effOp2, KN_seq, KXr_nil, KXe_nil, KXe_seq, KXe_block, KXe_back, QE, effOp, effPure, pureV, ofC, strip, lkT, lkH, ISt.app, opI, gO, gB, allB, gval, wrapG, dstOK, setD, clean, Gives, Ideal.Fin, conv, conv0, Op.operands, reduceIte, reduceCtorEq, Nat.reduceLT, Nat.reduceEqDiff, true_and, and_true, and_self, implies_true, List.nil_append, List.cons_append, List.append_nil, hN]
      have hie : i = a.length := by simp at h; omega
      have : a = b := eq_of_getD hab (fun j h' => hj j (by omega))
      simp [this]
def sp_slices_Equal_impl_Point_impl_Point : PSpec := ⟨fun xs => match xs with | [.sl 2 aes, .sl 2 bes] => isPs aes ∧ isPs bes | _ => False, fun xs => match xs with | [.sl _ aes, .sl _ bes] => (fun (a : List Pt) (b : List Pt) => .bool (a == b)) (toPs aes) (toPs bes) | _ => .junk, false⟩
theorem gk_slices_Equal_impl_Point_impl_Point : ∀ args, sp_slices_Equal_impl_Point_impl_Point.pre args → ICall Try.prog 116 args (sp_slices_Equal_impl_Point_impl_Point.val args) := by
  intro args h
  unfold sp_slices_Equal_impl_Point_impl_Point at h ⊢; simp only at h ⊢; split at h
  · obtain ⟨h0, h1⟩ := h
    obtain ⟨l0, rfl⟩ := isP_ex h0
    obtain ⟨l1, rfl⟩ := isP_ex h1
    simp only [toPs_enc] at *
    exact c_slices_Equal_impl_Point_impl_Point _ _ 
  · exact h.elim
theorem en_slices_Equal_impl_Point_impl_Point : Enters Try.prog 116 := enters_of Try.func116 (by kernel_rfl) rfl

def g_impl_ordered : List (Nat × PSpec) := [(58, sp_impl_listOk), (79, sp_impl_sorted_v), (116, sp_slices_Equal_impl_Point_impl_Point)]
theorem gok_impl_ordered : GOK Try.prog g_impl_ordered := gok_cons gk_impl_listOk en_impl_listOk (gok_cons gk_impl_sorted_v en_impl_sorted_v (gok_cons gk_slices_Equal_impl_Point_impl_Point en_slices_Equal_impl_Point_impl_Point (gok0)))
theorem lk_impl_ordered_impl_listOk : lkG g_impl_ordered 58 = sp_impl_listOk := rfl
theorem lk_impl_ordered_impl_sorted_v : lkG g_impl_ordered 79 = sp_impl_sorted_v := rfl
theorem lk_impl_ordered_slices_Equal_impl_Point_impl_Point : lkG g_impl_ordered 116 = sp_slices_Equal_impl_Point_impl_Point := rfl
def h_impl_ordered : List (Nat × HSpec) := []
theorem hok_impl_ordered : HOK Try.prog h_impl_ordered := hok0
theorem c_impl_ordered (l : List Pt)  : ICall Try.prog 68 [.sl 2 (encPs l)] (.bool (siteB l)) := by
  refine icall_V (G := g_impl_ordered) (H := []) [] tabOK mixed gok_impl_ordered hok_impl_ordered Try.func68 rfl Try.ntmps68 Try.results68 rfl (by kernel_rfl) fun F hN hlen => ?_
  have hv : siteB l = (okPs l && (l == insP l)) := rfl
  cases h1 : okPs l with
  | false =>
    rw [h1] at hv
    simp only [V_seq, V_ret, V_region, W_nil, W_cons, effOp2, KN_seq, KXr_nil, QE, effOp, effPure, effPick, effCall, giveUp, hasAll, pureV, pickV, ofC, strip, lkT, lkH, ISt.app, opI, gO, gB, allB, gval, wrapG, dstOK, setD, lendV, lendP, lent, lentP, idsV, idsL, lkHS, flat, clean, callArgs, callFn, allLent, enumT, Gives, Ideal.Fin, conv, conv0, Op.operands, reduceIte, reduceCtorEq, cond_true, cond_false, Bool.or_false, Bool.or_true, Bool.false_and, Bool.not_true, Bool.not_false, Nat.reduceLT, Nat.reduceEqDiff, true_and, and_true, false_and, and_false, and_self, false_implies, implies_true, List.map_cons, List.map_nil, List.nil_append, List.cons_append, List.append_nil, Option.bind_some, List.getElem?_cons_zero, List.getElem?_cons_succ, ex_clo, bft, or_true, or_self, Bool.false_eq_true, hN, isPs_enc, toPs_enc, lk_impl_ordered_impl_listOk, lk_impl_ordered_impl_sorted_v, lk_impl_ordered_slices_Equal_impl_Point_impl_Point, sp_impl_listOk, sp_impl_sorted_v, sp_slices_Equal_impl_Point_impl_Point, h1, hv]
  | true =>
    have hn := okPs_len h1
    have hz : l.length ≤ 1000000 := by omega
    rw [h1] at hv
    simp only [V_seq, V_ret, V_region, W_nil, W_cons, effOp2, KN_seq, KXr_nil, QE, effOp, effPure, effPick, effCall, giveUp, hasAll, pureV, pickV, ofC, strip, lkT, lkH, ISt.app, opI, gO, gB, allB, gval, wrapG, dstOK, setD, lendV, lendP, lent, lentP, idsV, idsL, lkHS, flat, clean, callArgs, callFn, allLent, enumT, Gives, Ideal.Fin, conv, conv0, Op.operands, reduceIte, reduceCtorEq, cond_true, cond_false, Bool.or_false, Bool.true_and, Bool.not_true, Nat.reduceLT, Nat.reduceEqDiff, beq_self_eq_true, and_self, implies_true, List.map_cons, List.map_nil, List.nil_append, List.cons_append, List.append_nil, Option.bind_some, List.getElem?_cons_zero, List.getElem?_cons_succ, ex_clo, or_true, or_self, Bool.true_eq_false, Bool.false_eq_true, hN, isPs_enc, toPs_enc, lk_impl_ordered_impl_listOk, lk_impl_ordered_impl_sorted_v, lk_impl_ordered_slices_Equal_impl_Point_impl_Point, sp_impl_listOk, sp_impl_sorted_v, sp_slices_Equal_impl_Point_impl_Point, h1, hz, hv]
def sp_impl_ordered : PSpec := ⟨fun xs => match xs with | [.sl 2 les] => isPs les | _ => False, fun xs => match xs with | [.sl _ les] => (fun (l : List Pt) => .bool (siteB l)) (toPs les) | _ => .junk, false⟩
theorem gk_impl_ordered : ∀ args, sp_impl_ordered.pre args → ICall Try.prog 68 args (sp_impl_ordered.val args) := by
  intro args h
  unfold sp_impl_ordered at h ⊢; simp only at h ⊢; split at h
  · have h0 := h
    obtain ⟨l0, rfl⟩ := isP_ex h0
    simp only [toPs_enc] at *
    exact c_impl_ordered _ 
  · exact h.elim
theorem en_impl_ordered : Enters Try.prog 68 := enters_of Try.func68 (by kernel_rfl) rfl


/-- The turn at three points, with overflow. -/
def crossW (a b c : Pt) : Int := IntKind.i64.wrap (IntKind.i64.wrap (IntKind.i64.wrap (b.1 - a.1) * IntKind.i64.wrap (c.2 - a.2)) - IntKind.i64.wrap (IntKind.i64.wrap (b.2 - a.2) * IntKind.i64.wrap (c.1 - a.1)))
theorem crossW_turn {a b c : Pt} (ha : Sm a) (hb : Sm b) (hc : Sm c) : crossW a b c = turn a b c := by
  have h1 := mulb (sm_sub hb.1 ha.1) (sm_sub hc.2 ha.2)
  have h2 := mulb (sm_sub hb.2 ha.2) (sm_sub hc.1 ha.1)
  have g1 := sm_sub hb.1 ha.1
  have g2 := sm_sub hc.2 ha.2
  have g3 := sm_sub hb.2 ha.2
  have g4 := sm_sub hc.1 ha.1
  unfold crossW turn
  rw [wr (x := b.1 - a.1) (by omega) (by omega), wr (x := c.2 - a.2) (by omega) (by omega), wr (x := b.2 - a.2) (by omega) (by omega), wr (x := c.1 - a.1) (by omega) (by omega), wr (x := (b.1 - a.1) * (c.2 - a.2)) (by omega) (by omega), wr (x := (b.2 - a.2) * (c.1 - a.1)) (by omega) (by omega), wr (by omega) (by omega)]
def g_spec_cross_w : List (Nat × PSpec) := []
theorem gok_spec_cross_w : GOK Try.prog g_spec_cross_w := gok0
def h_spec_cross_w : List (Nat × HSpec) := []
theorem hok_spec_cross_w : HOK Try.prog h_spec_cross_w := hok0
theorem c_spec_cross_w (a : Pt) (b : Pt) (c : Pt)  : ICall Try.prog 113 [encP a, encP b, encP c] (.num .i64 (crossW a b c)) := by
  refine icall_V (G := g_spec_cross_w) (H := []) [] tabOK mixed gok_spec_cross_w hok_spec_cross_w Try.func113 rfl Try.ntmps113 Try.results113 rfl (by kernel_rfl) fun F hN hlen => ?_
  have e : crossW a b c = IntKind.i64.wrap (IntKind.i64.wrap (IntKind.i64.wrap (b.1 - a.1) * IntKind.i64.wrap (c.2 - a.2)) - IntKind.i64.wrap (IntKind.i64.wrap (b.2 - a.2) * IntKind.i64.wrap (c.1 - a.1))) := rfl
  simp only [V_seq, V_ret, V_region, W_nil, W_cons, effOp2, KN_seq, KXr_nil, QE, effOp, effPure, effNew, effBox, skipE, pureV, binV, partV, loadV, faddrV, solid, IV.cells, ofC, strip, lkT, lkH, ISt.app, opI, gO, gB, allB, gval, wrapG, dstOK, setD, mentTm, mentHp, IV.ment, IV.mentL, oneI, clean, enumT, Gives, Ideal.Fin, conv, conv0, IBlk.shape, Op.operands, reduceIte, reduceCtorEq, cond_true, Bool.or_false, Bool.and_true, Nat.reduceAdd, Nat.reduceLT, Nat.reduceLeDiff, Nat.reduceEqDiff, Nat.reduceBEq, Nat.add_zero, Nat.zero_add, and_self, implies_true, List.nil_append, List.cons_append, List.append_nil, List.all_cons, List.all_nil, Option.map_some, List.getD_cons_zero, List.getD_cons_succ, List.length_cons, List.length_nil, List.take_succ_cons, List.take_zero, List.take_nil, List.drop_succ_cons, List.drop_zero, tab3, tab30, hN, encP, e]
def sp_spec_cross_w : PSpec := ⟨fun xs => match xs with | [.agg [.num .i64 a1, .num .i64 a2], .agg [.num .i64 b1, .num .i64 b2], .agg [.num .i64 c1, .num .i64 c2]] => True | _ => False, fun xs => match xs with | [.agg [.num _ a1, .num _ a2], .agg [.num _ b1, .num _ b2], .agg [.num _ c1, .num _ c2]] => (fun (a : Pt) (b : Pt) (c : Pt) => .num .i64 (crossW a b c)) (a1, a2) (b1, b2) (c1, c2) | _ => .junk, false⟩
theorem gk_spec_cross_w : ∀ args, sp_spec_cross_w.pre args → ICall Try.prog 113 args (sp_spec_cross_w.val args) := by
  intro args h
  unfold sp_spec_cross_w at h ⊢; simp only at h ⊢; split at h
  · exact c_spec_cross_w (_, _) (_, _) (_, _)
  · exact h.elim
theorem en_spec_cross_w : Enters Try.prog 113 := enters_of Try.func113 (by kernel_rfl) rfl

def g_spec_validSites : List (Nat × PSpec) := [(138, sp_spec_pointLess), (61, sp_spec_validPoints)]
theorem gok_spec_validSites : GOK Try.prog g_spec_validSites := gok_cons gk_spec_pointLess en_spec_pointLess (gok_cons gk_spec_validPoints en_spec_validPoints (gok0))
theorem lk_spec_validSites_spec_pointLess : lkG g_spec_validSites 138 = sp_spec_pointLess := rfl
theorem lk_spec_validSites_spec_validPoints : lkG g_spec_validSites 61 = sp_spec_validPoints := rfl
def h_spec_validSites : List (Nat × HSpec) := []
theorem hok_spec_validSites : HOK Try.prog h_spec_validSites := hok0
theorem c_spec_validSites (l : List Pt)  : ICall Try.prog 114 [.sl 2 (encPs l)] (.bool (siteB l)) := by
  refine icall_V (G := g_spec_validSites) (H := []) [(4, [(0, 9), (1, 9), (2, 9), (3, 9), (5, 9), (6, 9), (7, 9)])] tabOK mixed gok_spec_validSites hok_spec_validSites Try.func114 rfl Try.ntmps114 Try.results114 rfl (by kernel_rfl) fun F hN hlen => ?_
  have hl := hlen 0 2 _ rfl
  have el := len_encPs l
  rw [el] at hl
  have hv : siteB l = (okPs l && (l == insP l)) := rfl
  simp only [V_seq, V_block, V_region, W_nil, W_cons, effOp2, KN_seq, effOp, effPure, pureV, ofC, strip, ISt.app, opI, gO, gB, allB, gval, wrapG, dstOK, setD, enumT, Op.operands, Nat.reduceLT, true_and, and_self, implies_true, List.nil_append, List.cons_append, List.append_nil, hN]
  refine V_loop (α := Nat) ⟨tabOK, mixed, gok_spec_validSites, hok_spec_validSites⟩ (by kernel_rfl) (fun i => ∀ j, j < i → j + 1 < l.length → ltP (pAt l j) (pAt l (j + 1)) = true) (fun i => ⟨[(3, .num .i64 ((i + 1 : Nat) : Int)), (0, .sl 2 (encPs l))], []⟩) (fun i => l.length - i) 0 id (fun j h => absurd h (Nat.not_lt_zero j)) (by simp [SLe, SLe0, convTm, convHp, conv, conv0, lkT, lkH, clean]) ?_
  intro i hj
  simp only [V_seq, V_region, V_cond, W_nil, W_cons, effOp2, KN_seq, asB, effOp, effPure, pureV, binV, lenV, strip, lkT, ISt.app, opI, gO, gB, allB, gval, wrapG, dstOK, setD, Op.operands, Call.operands, List.append_toArray, reduceIte, reduceCtorEq, Nat.reduceLT, Nat.reduceEqDiff, ne_eq, not_false_eq_true, true_and, and_self, implies_true, List.nil_append, List.cons_append, List.append_nil, tab23, hN, el]
  refine brW_some (fun h => ?_) (fun h => ?_)
  · have hi' : i + 1 < l.length := by simp at h; omega
    have g0 := getD_encPs (show i < l.length by omega)
    have g1 := getD_encPs hi'
    have w1 : IntKind.i64.wrap (((i + 1 : Nat) : Int) - 1) = (i : Int) := by rw [maxLen_eq] at hl; rw [wr (by omega) (by omega)]; omega
    have w2 : IntKind.i64.wrap (((i + 1 : Nat) : Int) + 1) = ((i + 1 + 1 : Nat) : Int) := by rw [maxLen_eq] at hl; rw [wr (by omega) (by omega)]; omega
    cases c1 : ltP (pAt l i) (pAt l (i + 1)) with
    | true =>
      simp only [V_seq, V_skip, V_block, V_region, V_draw, V_cond, brW_false, drawW, WS_nil, pairsOf, W_nil, W_cons, effOp2, WI_nil, WI_cons, KN_seq, KN_block, KN_back, dynOK, indB, farB, freshB, heapy, asB, effOp, effPure, effCall, giveUp, hasAll, pureV, binV, partV, eltV, loadV, iaddrV, ofC, strip, lkT, lkH, ISt.app, opI, gO, gB, allB, gval, wrapG, dstOK, setD, mentTm, mentHp, IV.ment, lendV, lendP, lent, lentP, idsV, idsL, lkHS, flat, clean, callArgs, callFn, allLent, Op.operands, Call.operands, List.append_toArray, reduceIte, reduceCtorEq, cond_true, cond_false, Bool.or_false, Bool.and_true, Bool.and_eq_true, Bool.not_true, Bool.not_false, Nat.reduceAdd, Nat.reduceLT, Nat.reduceLeDiff, Nat.reduceEqDiff, Nat.reduceBEq, Nat.zero_add, ne_eq, not_false_eq_true, true_and, and_true, and_false, and_self, implies_true, forall_const, List.map_cons, List.map_nil, List.nil_append, List.cons_append, List.append_nil, List.getD_cons_zero, List.getD_cons_succ, List.length_cons, List.length_nil, List.take_succ_cons, List.take_zero, List.take_nil, List.drop_zero, ex_clo, or_self, tab23, tab30, hN, pe, Int.toNat_natCast, lk_spec_validSites_spec_pointLess, sp_spec_pointLess, el, g0, g1, w1, w2, c1]
      repeat refine And.intro (by first | omega | (simp; done) | (simp; omega)) ?_
      exact ⟨i + 1, id, lt_step hj (fun _ => c1), by simp only []; omega, by simp [SLe, SLe0, convTm, convHp, conv, conv0, lkT, lkH, clean]⟩
    | false =>
      have hne : (l == insP l) = false := by
        cases hq : (l == insP l) with
        | false => rfl
        | true =>
          have := adj_of_asc (asc_ins.1 (by simpa using hq)) hi'
          rw [c1] at this; cases this
      rw [hne, Bool.and_false] at hv
      simp only [V_seq, V_skip, V_ret, V_block, V_region, V_draw, V_cond, brW_true, drawW, WS_nil, pairsOf, W_nil, W_cons, effOp2, WI_nil, WI_cons, KN_seq, KXr_nil, KXr_seq, KXr_block, KXr_back, QE, dynOK, indB, farB, freshB, heapy, asB, effOp, effPure, effCall, giveUp, hasAll, pureV, binV, partV, eltV, loadV, iaddrV, ofC, strip, lkT, lkH, ISt.app, opI, gO, gB, allB, gval, wrapG, dstOK, setD, mentTm, mentHp, IV.ment, lendV, lendP, lent, lentP, idsV, idsL, lkHS, flat, clean, callArgs, callFn, allLent, Gives, Ideal.Fin, conv, conv0, Op.operands, Call.operands, List.append_toArray, reduceIte, reduceCtorEq, cond_true, cond_false, Bool.or_false, Bool.and_true, Bool.and_eq_true, Bool.not_true, Bool.not_false, Nat.reduceAdd, Nat.reduceLT, Nat.reduceLeDiff, Nat.reduceEqDiff, Nat.reduceBEq, Nat.zero_add, ne_eq, not_false_eq_true, true_and, and_true, and_false, and_self, implies_true, forall_const, List.map_cons, List.map_nil, List.nil_append, List.cons_append, List.append_nil, List.getD_cons_zero, List.getD_cons_succ, List.length_cons, List.length_nil, List.take_succ_cons, List.take_zero, List.take_nil, List.drop_zero, ex_clo, or_self, tab23, tab30, hN, pe, Int.toNat_natCast, lk_spec_validSites_spec_pointLess, sp_spec_pointLess, el, g0, g1, w1, c1, hv]
      omega
  · have hie : l.length ≤ i + 1 := by simp at h; omega
    have hasc : (l == insP l) = true := by
      rw [beq_iff_eq]
      exact asc_ins.2 (asc_of_adj fun j h2 => hj j (by omega) h2)
    rw [hasc, Bool.and_true] at hv
    simp only [V_seq, V_ret, V_exit, V_region, W_nil, W_cons, effOp2, KN_seq, KXr_nil, KXe_nil, KXe_seq, KXe_block, KXe_back, QE, effOp, effPure, effCall, giveUp, hasAll, pureV, strip, lkT, lkH, ISt.app, opI, gO, gB, allB, gval, wrapG, dstOK, setD, lendV, lendP, lent, lentP, idsV, idsL, lkHS, flat, clean, callArgs, callFn, allLent, Gives, Ideal.Fin, conv, conv0, Op.operands, reduceIte, reduceCtorEq, cond_true, Bool.or_false, Bool.not_true, Nat.reduceLT, Nat.reduceEqDiff, and_self, implies_true, List.map_cons, List.map_nil, List.nil_append, List.cons_append, List.append_nil, ex_clo, or_self, hN, isPs_enc, toPs_enc, lk_spec_validSites_spec_validPoints, sp_spec_validPoints, hv]
def sp_spec_validSites : PSpec := ⟨fun xs => match xs with | [.sl 2 les] => isPs les | _ => False, fun xs => match xs with | [.sl _ les] => (fun (l : List Pt) => .bool (siteB l)) (toPs les) | _ => .junk, false⟩
theorem gk_spec_validSites : ∀ args, sp_spec_validSites.pre args → ICall Try.prog 114 args (sp_spec_validSites.val args) := by
  intro args h
  unfold sp_spec_validSites at h ⊢; simp only at h ⊢; split at h
  · have h0 := h
    obtain ⟨l0, rfl⟩ := isP_ex h0
    simp only [toPs_enc] at *
    exact c_spec_validSites _ 
  · exact h.elim
theorem en_spec_validSites : Enters Try.prog 114 := enters_of Try.func114 (by kernel_rfl) rfl


/-- Is a triangle one of three points, counterclockwise? With overflow, and without. -/
def okTw (l : List Pt) (t : Tr) : Bool := idxOK l.length t && !(decide (crossW (triA l t) (triB l t) (triC l t) ≤ 0))
def okT (l : List Pt) (t : Tr) : Bool := idxOK l.length t && !(decide (turn (triA l t) (triB l t) (triC l t) ≤ 0))
theorem getD_any (l : List Pt) (n : Nat) : (encPs l).getD n .junk = .junk ∨ ∃ x y, (encPs l).getD n .junk = .agg [.num .i64 x, .num .i64 y] := by
  rcases Nat.lt_or_ge n l.length with h | h
  · exact .inr ⟨_, _, getD_encPs h⟩
  · exact .inl (by simp [List.getD, encPs, h])
theorem okTw_eq {l : List Pt} (hm : SmL l) (t : Tr) : okTw l t = okT l t := by
  have h := crossW_turn (hm.at t.1.toNat) (hm.at t.2.1.toNat) (hm.at t.2.2.toNat)
  unfold okTw okT triA triB triC; rw [h]
def meshB (l : List Pt) (ts : List Tr) : Bool := ts.all (okTw l) && siteB l && decide (ts.length ≤ 40)
theorem all_no {α : Type} {p : α → Bool} {d : α} {l : List α} {i : Nat} (hi : i < l.length) (h : p (l.getD i d) = false) : l.all p = false := by
  cases hc : l.all p with
  | false => rfl
  | true =>
    rw [List.all_eq_true] at hc
    have := hc (l.getD i d) (by rw [List.getD, List.getElem?_eq_getElem hi]; exact List.getElem_mem hi)
    rw [h] at this; cases this
theorem all_yes {α : Type} {p : α → Bool} {d : α} {l : List α} (h : ∀ j, j < l.length → p (l.getD j d) = true) : l.all p = true := by
  rw [List.all_eq_true]
  intro x hx
  obtain ⟨i, hi, rfl⟩ := List.getElem_of_mem hx
  have := h i hi
  simpa [List.getD, hi] using this
theorem all_part {α : Type} {p : α → Bool} {d : α} {l : List α} (h : l.all p = true) {i : Nat} (hi : i < l.length) : p (l.getD i d) = true := by
  rw [List.all_eq_true] at h
  exact h _ (by rw [List.getD, List.getElem?_eq_getElem hi]; exact List.getElem_mem hi)
def g_spec_validMesh : List (Nat × PSpec) := [(100, sp_spec_inRange), (113, sp_spec_cross_w), (114, sp_spec_validSites)]
theorem gok_spec_validMesh : GOK Try.prog g_spec_validMesh := gok_cons gk_spec_inRange en_spec_inRange (gok_cons gk_spec_cross_w en_spec_cross_w (gok_cons gk_spec_validSites en_spec_validSites (gok0)))
theorem lk_spec_validMesh_spec_inRange : lkG g_spec_validMesh 100 = sp_spec_inRange := rfl
theorem lk_spec_validMesh_spec_cross_w : lkG g_spec_validMesh 113 = sp_spec_cross_w := rfl
theorem lk_spec_validMesh_spec_validSites : lkG g_spec_validMesh 114 = sp_spec_validSites := rfl
def h_spec_validMesh : List (Nat × HSpec) := []
theorem hok_spec_validMesh : HOK Try.prog h_spec_validMesh := hok0
theorem c_spec_validMesh (l : List Pt) (ts : List Tr)  : ICall Try.prog 65 [.sl 2 (encPs l), .sl 3 (encTs ts)] (.bool (meshB l ts)) := by
  refine icall_V (G := g_spec_validMesh) (H := []) [(5, [(0, 5), (2, 5), (3, 5), (5, 8), (5, 9), (5, 10), (5, 11), (5, 12), (0, 13), (1, 13), (2, 13), (3, 13), (4, 13), (5, 13), (6, 13), (8, 13), (10, 13), (11, 13), (5, 14), (5, 15), (13, 15), (5, 16), (5, 17), (13, 17), (5, 18), (13, 18), (5, 19), (13, 19), (5, 20), (13, 20), (5, 21), (13, 21), (0, 22), (1, 22), (2, 22), (3, 22), (4, 22), (5, 22), (6, 22), (7, 22), (8, 22), (9, 22), (10, 22), (11, 22), (12, 22), (13, 22), (14, 22), (15, 22), (17, 22), (19, 22), (20, 22), (5, 23), (13, 23), (5, 24), (13, 24), (22, 24), (5, 25), (13, 25), (5, 26), (13, 26), (22, 26), (5, 27), (13, 27), (22, 27), (5, 28), (13, 28), (22, 28), (5, 29), (13, 29), (22, 29), (5, 30), (13, 30), (22, 30), (5, 31), (13, 31), (22, 31), (5, 32), (13, 32), (22, 32), (5, 33), (13, 33), (22, 33), (5, 34), (13, 34), (22, 34), (5, 35), (13, 35), (22, 35), (5, 36), (13, 36), (22, 36), (5, 37), (13, 37), (22, 37), (5, 38), (13, 38), (22, 38), (5, 39), (13, 39), (22, 39), (5, 40), (13, 40), (22, 40), (0, 41), (1, 41), (2, 41), (3, 41), (4, 41), (5, 41), (6, 41), (7, 41), (8, 41), (9, 41), (10, 41), (11, 41), (12, 41), (13, 41), (14, 41), (15, 41), (16, 41), (17, 41), (18, 41), (19, 41), (20, 41), (21, 41), (22, 41), (23, 41), (24, 41), (26, 41), (27, 41), (28, 41), (29, 41), (31, 41), (32, 41), (33, 41), (34, 41), (36, 41), (37, 41), (38, 41), (39, 41), (5, 42), (13, 42), (22, 42), (5, 43), (13, 43), (22, 43), (41, 43)])] tabOK mixed gok_spec_validMesh hok_spec_validMesh Try.func65 rfl Try.ntmps65 Try.results65 rfl (by kernel_rfl) fun F hN hlen => ?_
  have hl := hlen 0 2 _ rfl
  have hl2 := hlen 1 3 _ rfl
  have el := len_encPs l
  have et := len_encTs ts
  rw [el, maxLen_eq] at hl
  rw [et] at hl2
  have hv : meshB l ts = (ts.all (okTw l) && siteB l && decide (ts.length ≤ 40)) := rfl
  simp only [V_seq, V_block, V_region, W_nil, W_cons, effOp2, KN_seq, effOp, effPure, pureV, ofC, strip, ISt.app, opI, gO, gB, allB, gval, wrapG, dstOK, setD, enumT, Op.operands, Nat.reduceLT, Nat.zero_add, true_and, and_self, implies_true, List.nil_append, List.cons_append, List.append_nil, hN]
  refine V_loop (α := Nat) ⟨tabOK, mixed, gok_spec_validMesh, hok_spec_validMesh⟩ (by kernel_rfl) (fun i => i ≤ ts.length ∧ ∀ j, j < i → okTw l (tAt ts j) = true) (fun i => ⟨[(5, .num .i64 i), (0, .sl 2 (encPs l)), (1, .sl 3 (encTs ts))], []⟩) (fun i => ts.length - i) 0 id ⟨Nat.zero_le _, fun j h => absurd h (Nat.not_lt_zero j)⟩ (by simp [SLe, SLe0, convTm, convHp, conv, conv0, lkT, lkH, clean]) ?_
  rintro i ⟨hi, hj⟩
  simp only [V_seq, V_region, V_cond, W_nil, W_cons, effOp2, KN_seq, asB, effOp, effPure, pureV, binV, lenV, strip, lkT, ISt.app, opI, gO, gB, allB, gval, wrapG, dstOK, setD, Op.operands, Call.operands, List.append_toArray, reduceIte, reduceCtorEq, Nat.reduceLT, Nat.reduceEqDiff, ne_eq, not_false_eq_true, true_and, and_self, implies_true, List.nil_append, List.cons_append, List.append_nil, tab38, hN, et]
  refine brW_some (fun h => ?_) (fun h => ?_)
  · have hi' : i < ts.length := by simpa using h
    have hw := wr_succ hi' hl2
    have g0 := getD_encTs hi'
    have w1 : IntKind.i64.wrap ((l.length : Int) - 1) = (l.length : Int) - 1 := wr (by omega) (by omega)
    have hall : okTw l (tAt ts i) = false → meshB l ts = false := fun h => by rw [hv, all_no hi' h]; rfl
    have hstep := fun h => lt_step (P := fun j => okTw l (tAt ts j) = true) hj h
    generalize tAt ts i = t at *
    have hok : okTw l t = (inR t.1 0 ((l.length : Int) - 1) && inR t.2.1 0 ((l.length : Int) - 1) && inR t.2.2 0 ((l.length : Int) - 1) && !(decide (crossW (triA l t) (triB l t) (triC l t) ≤ 0))) := rfl
    have hid : idxOK l.length t = (inR t.1 0 ((l.length : Int) - 1) && inR t.2.1 0 ((l.length : Int) - 1) && inR t.2.2 0 ((l.length : Int) - 1)) := rfl
    cases h1 : inR t.1 0 ((l.length : Int) - 1) with
    | false =>
      have hn := hall (by rw [hok, h1]; rfl)
      rcases getD_any l t.1.toNat with k1 | ⟨x1, y1, k1⟩ <;> rcases getD_any l t.2.1.toNat with k2 | ⟨x2, y2, k2⟩ <;> rcases getD_any l t.2.2.toNat with k3 | ⟨x3, y3, k3⟩ <;>
        (simp only [V_seq, V_skip, V_ret, V_block, V_region, V_draw, V_cond, brW_true, drawW, WS_nil, pairsOf, W_nil, W_cons, effOp2, WI_nil, WI_cons, KN_seq, KXr_nil, KXr_seq, KXr_block, KXr_back, QE, dynOK, indB, farB, freshB, heapy, asB, effOp, effPure, effPick, effNew, effAlloc, effStore, effCall, giveUp, hasAll, skipE, pureV, pickV, storeV, binV, partV, eltV, loadV, faddrV, iaddrV, lenV, over, solid, IV.cells, ofC, strip, lkT, lkH, ISt.app, opI, gO, gB, allB, gval, wrapG, dstOK, setD, mentTm, mentHp, IV.ment, IV.mentL, oneI, lendV, lendP, lent, lentP, idsV, idsL, lkHS, flat, clean, callArgs, callFn, allLent, Gives, Ideal.Fin, conv, conv0, IBlk.shape, Op.operands, Call.operands, List.append_toArray, reduceIte, reduceCtorEq, cond_true, cond_false, Bool.or_false, Bool.or_true, Bool.and_true, Bool.and_eq_true, Bool.not_true, Bool.not_false, Nat.reduceAdd, Nat.reduceLT, Nat.reduceLeDiff, Nat.reduceEqDiff, Nat.reduceBEq, Nat.add_zero, Nat.zero_add, ne_eq, not_false_eq_true, true_and, and_true, false_and, and_false, and_self, false_implies, implies_true, forall_const, List.map_cons, List.map_nil, List.nil_append, List.cons_append, List.append_nil, List.all_cons, List.all_nil, Option.map_some, Option.bind_some, List.getElem?_cons_zero, List.getElem?_cons_succ, List.getD_cons_zero, List.getD_cons_succ, List.length_cons, List.length_nil, List.take_succ_cons, List.take_zero, List.take_nil, List.drop_succ_cons, List.drop_zero, List.drop_nil, ex_clo, btf, or_true, or_self, Bool.true_eq_false, Bool.false_eq_true, tab3, tab23, tab30, tab38, tab64, hN, Int.toNat_natCast, lk_spec_validMesh_spec_inRange, lk_spec_validMesh_spec_cross_w, sp_spec_inRange, sp_spec_cross_w, el, et, g0, w1, h1, hn, k1, k2, k3]
         omega)
    | true =>
      cases h2 : inR t.2.1 0 ((l.length : Int) - 1) with
      | false =>
        have hn := hall (by rw [hok, h1, h2]; rfl)
        rcases getD_any l t.1.toNat with k1 | ⟨x1, y1, k1⟩ <;> rcases getD_any l t.2.1.toNat with k2 | ⟨x2, y2, k2⟩ <;> rcases getD_any l t.2.2.toNat with k3 | ⟨x3, y3, k3⟩ <;>
          (simp only [V_seq, V_skip, V_ret, V_block, V_region, V_draw, V_cond, brW_true, drawW, WS_nil, pairsOf, W_nil, W_cons, effOp2, WI_nil, WI_cons, KN_seq, KXr_nil, KXr_seq, KXr_block, KXr_back, QE, dynOK, indB, farB, freshB, heapy, asB, effOp, effPure, effPick, effNew, effAlloc, effStore, effCall, giveUp, hasAll, skipE, pureV, pickV, storeV, binV, partV, eltV, loadV, faddrV, iaddrV, lenV, over, solid, IV.cells, ofC, strip, lkT, lkH, ISt.app, opI, gO, gB, allB, gval, wrapG, dstOK, setD, mentTm, mentHp, IV.ment, IV.mentL, oneI, lendV, lendP, lent, lentP, idsV, idsL, lkHS, flat, clean, callArgs, callFn, allLent, Gives, Ideal.Fin, conv, conv0, IBlk.shape, Op.operands, Call.operands, List.append_toArray, reduceIte, reduceCtorEq, cond_true, cond_false, Bool.or_false, Bool.or_true, Bool.and_true, Bool.and_eq_true, Bool.not_true, Bool.not_false, Nat.reduceAdd, Nat.reduceLT, Nat.reduceLeDiff, Nat.reduceEqDiff, Nat.reduceBEq, Nat.add_zero, Nat.zero_add, ne_eq, not_false_eq_true, beq_self_eq_true, true_and, and_true, false_and, and_false, and_self, false_implies, implies_true, forall_const, List.map_cons, List.map_nil, List.nil_append, List.cons_append, List.append_nil, List.all_cons, List.all_nil, Option.map_some, Option.bind_some, List.getElem?_cons_zero, List.getElem?_cons_succ, List.getD_cons_zero, List.getD_cons_succ, List.length_cons, List.length_nil, List.take_succ_cons, List.take_zero, List.take_nil, List.drop_succ_cons, List.drop_zero, List.drop_nil, ex_clo, btf, or_true, or_self, Bool.true_eq_false, Bool.false_eq_true, tab3, tab23, tab30, tab38, tab64, hN, Int.toNat_natCast, lk_spec_validMesh_spec_inRange, lk_spec_validMesh_spec_cross_w, sp_spec_inRange, sp_spec_cross_w, el, et, g0, w1, h1, h2, hn, k1, k2, k3]
           omega)
      | true =>
        cases h3 : inR t.2.2 0 ((l.length : Int) - 1) with
        | false =>
          have hn := hall (by rw [hok, h1, h2, h3]; rfl)
          rcases getD_any l t.1.toNat with k1 | ⟨x1, y1, k1⟩ <;> rcases getD_any l t.2.1.toNat with k2 | ⟨x2, y2, k2⟩ <;> rcases getD_any l t.2.2.toNat with k3 | ⟨x3, y3, k3⟩ <;>
            (simp only [V_seq, V_skip, V_ret, V_block, V_region, V_draw, V_cond, brW_true, drawW, WS_nil, pairsOf, W_nil, W_cons, effOp2, WI_nil, WI_cons, KN_seq, KXr_nil, KXr_seq, KXr_block, KXr_back, QE, dynOK, indB, farB, freshB, heapy, asB, effOp, effPure, effPick, effNew, effAlloc, effStore, effCall, giveUp, hasAll, skipE, pureV, pickV, storeV, binV, partV, eltV, loadV, faddrV, iaddrV, lenV, over, solid, IV.cells, ofC, strip, lkT, lkH, ISt.app, opI, gO, gB, allB, gval, wrapG, dstOK, setD, mentTm, mentHp, IV.ment, IV.mentL, oneI, lendV, lendP, lent, lentP, idsV, idsL, lkHS, flat, clean, callArgs, callFn, allLent, Gives, Ideal.Fin, conv, conv0, IBlk.shape, Op.operands, Call.operands, List.append_toArray, reduceIte, reduceCtorEq, cond_true, cond_false, Bool.or_false, Bool.or_true, Bool.and_true, Bool.and_eq_true, Bool.not_true, Bool.not_false, Nat.reduceAdd, Nat.reduceLT, Nat.reduceLeDiff, Nat.reduceEqDiff, Nat.reduceBEq, Nat.add_zero, Nat.zero_add, ne_eq, not_false_eq_true, beq_self_eq_true, true_and, and_true, false_and, and_false, and_self, false_implies, implies_true, forall_const, List.map_cons, List.map_nil, List.nil_append, List.cons_append, List.append_nil, List.all_cons, List.all_nil, Option.map_some, Option.bind_some, List.getElem?_cons_zero, List.getElem?_cons_succ, List.getD_cons_zero, List.getD_cons_succ, List.length_cons, List.length_nil, List.take_succ_cons, List.take_zero, List.take_nil, List.drop_succ_cons, List.drop_zero, List.drop_nil, ex_clo, btf, or_true, or_self, Bool.true_eq_false, Bool.false_eq_true, tab3, tab23, tab30, tab38, tab64, hN, Int.toNat_natCast, lk_spec_validMesh_spec_inRange, lk_spec_validMesh_spec_cross_w, sp_spec_inRange, sp_spec_cross_w, el, et, g0, w1, h1, h2, h3, hn, k1, k2, k3]
             omega)
        | true =>
          rw [h1, h2, h3] at hid hok
          obtain ⟨⟨a0, a1⟩, ⟨b0, b1⟩, ⟨c0, c1⟩⟩ := idx_facts hid
          obtain ⟨t1, t2, t3⟩ := t
          simp only [] at a0 a1 b0 b1 c0 c1
          obtain ⟨x, rfl⟩ := nat_of a0
          obtain ⟨y, rfl⟩ := nat_of b0
          obtain ⟨z, rfl⟩ := nat_of c0
          have g1 := getD_encPs (l := l) (i := x) (by omega)
          have g2 := getD_encPs (l := l) (i := y) (by omega)
          have g3 := getD_encPs (l := l) (i := z) (by omega)
          have e1 : triA l ((x : Int), (y : Int), (z : Int)) = pAt l x := rfl
          have e2 : triB l ((x : Int), (y : Int), (z : Int)) = pAt l y := rfl
          have e3 : triC l ((x : Int), (y : Int), (z : Int)) = pAt l z := rfl
          rw [e1, e2, e3] at hok
          simp only [] at h1 h2 h3
          cases h4 : decide (crossW (pAt l x) (pAt l y) (pAt l z) ≤ 0) with
          | true =>
            have hn := hall (by rw [hok, h4]; rfl)
            simp only [V_seq, V_skip, V_ret, V_block, V_region, V_draw, V_cond, brW_true, drawW, WS_nil, pairsOf, W_nil, W_cons, effOp2, WI_nil, WI_cons, KN_seq, KXr_nil, KXr_seq, KXr_block, KXr_back, QE, dynOK, indB, farB, freshB, heapy, asB, effOp, effPure, effPick, effNew, effAlloc, effStore, effCall, giveUp, hasAll, skipE, pureV, pickV, storeV, binV, partV, eltV, loadV, faddrV, iaddrV, lenV, over, solid, IV.cells, ofC, strip, lkT, lkH, ISt.app, opI, gO, gB, allB, gval, wrapG, dstOK, setD, mentTm, mentHp, IV.ment, IV.mentL, oneI, lendV, lendP, lent, lentP, idsV, idsL, lkHS, flat, clean, callArgs, callFn, allLent, Gives, Ideal.Fin, conv, conv0, IBlk.shape, Op.operands, Call.operands, List.append_toArray, reduceIte, reduceCtorEq, cond_true, cond_false, Bool.or_false, Bool.and_true, Bool.and_eq_true, Bool.not_true, Bool.not_false, Nat.reduceAdd, Nat.reduceLT, Nat.reduceLeDiff, Nat.reduceEqDiff, Nat.reduceBEq, Nat.add_zero, Nat.zero_add, ne_eq, not_false_eq_true, beq_self_eq_true, true_and, and_true, and_false, and_self, implies_true, forall_const, List.map_cons, List.map_nil, List.nil_append, List.cons_append, List.append_nil, List.all_cons, List.all_nil, Option.map_some, Option.bind_some, List.getElem?_cons_zero, List.getElem?_cons_succ, List.getD_cons_zero, List.getD_cons_succ, List.length_cons, List.length_nil, List.take_succ_cons, List.take_zero, List.take_nil, List.drop_succ_cons, List.drop_zero, List.drop_nil, ex_clo, or_self, Bool.false_eq_true, tab3, tab23, tab30, tab38, tab64, hN, pe, Int.toNat_natCast, lk_spec_validMesh_spec_inRange, lk_spec_validMesh_spec_cross_w, sp_spec_inRange, sp_spec_cross_w, el, et, g0, w1, h1, h2, h3, g1, g2, g3, h4, hn]
            omega
          | false =>
            have hst := hstep (by rw [hok, h4]; rfl)
            simp only [V_seq, V_skip, V_block, V_region, V_draw, V_cond, brW_false, drawW, WS_nil, pairsOf, W_nil, W_cons, effOp2, WI_nil, WI_cons, KN_seq, KN_block, KN_back, dynOK, indB, farB, freshB, heapy, asB, effOp, effPure, effPick, effNew, effAlloc, effStore, effCall, giveUp, hasAll, skipE, pureV, pickV, storeV, binV, partV, eltV, loadV, faddrV, iaddrV, lenV, over, solid, IV.cells, ofC, strip, lkT, lkH, ISt.app, opI, gO, gB, allB, gval, wrapG, dstOK, setD, mentTm, mentHp, IV.ment, IV.mentL, oneI, lendV, lendP, lent, lentP, idsV, idsL, lkHS, flat, clean, callArgs, callFn, allLent, IBlk.shape, Op.operands, Call.operands, List.append_toArray, reduceIte, reduceCtorEq, cond_true, cond_false, Bool.or_false, Bool.and_true, Bool.and_eq_true, Bool.not_true, Bool.not_false, Nat.reduceAdd, Nat.reduceLT, Nat.reduceLeDiff, Nat.reduceEqDiff, Nat.reduceBEq, Nat.add_zero, Nat.zero_add, ne_eq, not_false_eq_true, beq_self_eq_true, true_and, and_true, and_false, and_self, implies_true, forall_const, List.map_cons, List.map_nil, List.nil_append, List.cons_append, List.append_nil, List.all_cons, List.all_nil, Option.map_some, Option.bind_some, List.getElem?_cons_zero, List.getElem?_cons_succ, List.getD_cons_zero, List.getD_cons_succ, List.length_cons, List.length_nil, List.take_succ_cons, List.take_zero, List.take_nil, List.drop_succ_cons, List.drop_zero, List.drop_nil, ex_clo, or_self, Bool.false_eq_true, tab3, tab23, tab30, tab38, tab64, hN, pe, Int.toNat_natCast, lk_spec_validMesh_spec_inRange, lk_spec_validMesh_spec_cross_w, sp_spec_inRange, sp_spec_cross_w, el, et, g0, w1, h1, h2, h3, g1, g2, g3, h4, hw]
            repeat refine And.intro (by first | omega | (simp; done) | (simp; omega)) ?_
            exact ⟨i + 1, id, ⟨by omega, hst⟩, by simp only []; omega, by simp [SLe, SLe0, convTm, convHp, conv, conv0, lkT, lkH, clean]⟩
  · have hie : i = ts.length := by simp at h; omega
    subst hie
    have ha := all_yes (d := (0, 0, 0)) hj
    have d1 : decide ((ts.length : Int) ≤ 40) = decide (ts.length ≤ 40) := by rw [Bool.eq_iff_iff]; simp; omega
    rw [ha, Bool.true_and] at hv
    cases h1 : siteB l with
    | false =>
      rw [h1] at hv
      simp only [V_seq, V_ret, V_exit, V_region, W_nil, W_cons, effOp2, KN_seq, KXr_nil, KXe_nil, KXe_seq, KXe_block, KXe_back, QE, effOp, effPure, effPick, effCall, giveUp, hasAll, pureV, pickV, binV, lenV, ofC, strip, lkT, lkH, ISt.app, opI, gO, gB, allB, gval, wrapG, dstOK, setD, lendV, lendP, lent, lentP, idsV, idsL, lkHS, flat, clean, callArgs, callFn, allLent, Gives, Ideal.Fin, conv, conv0, Op.operands, Call.operands, List.append_toArray, reduceIte, reduceCtorEq, cond_true, cond_false, Bool.or_false, Bool.false_and, Bool.not_true, Nat.reduceLT, Nat.reduceEqDiff, ne_eq, not_false_eq_true, and_true, and_self, false_implies, implies_true, List.map_cons, List.map_nil, List.nil_append, List.cons_append, List.append_nil, Option.bind_some, List.getElem?_cons_zero, List.getElem?_cons_succ, ex_clo, bft, or_self, Bool.false_eq_true, tab38, hN, isPs_enc, toPs_enc, lk_spec_validMesh_spec_validSites, sp_spec_validSites, et, h1, hv]
    | true =>
      rw [h1] at hv
      simp only [V_seq, V_ret, V_exit, V_region, W_nil, W_cons, effOp2, KN_seq, KXr_nil, KXe_nil, KXe_seq, KXe_block, KXe_back, QE, effOp, effPure, effPick, effCall, giveUp, hasAll, pureV, pickV, binV, lenV, ofC, strip, lkT, lkH, ISt.app, opI, gO, gB, allB, gval, wrapG, dstOK, setD, lendV, lendP, lent, lentP, idsV, idsL, lkHS, flat, clean, callArgs, callFn, allLent, Gives, Ideal.Fin, conv, conv0, Op.operands, Call.operands, List.append_toArray, reduceIte, reduceCtorEq, cond_true, Bool.or_false, Bool.true_and, Bool.not_true, Nat.reduceLT, Nat.reduceEqDiff, ne_eq, not_false_eq_true, beq_self_eq_true, and_self, implies_true, List.map_cons, List.map_nil, List.nil_append, List.cons_append, List.append_nil, Option.bind_some, List.getElem?_cons_zero, List.getElem?_cons_succ, ex_clo, or_self, Bool.true_eq_false, tab38, hN, isPs_enc, toPs_enc, lk_spec_validMesh_spec_validSites, sp_spec_validSites, et, h1, d1, hv]
def sp_spec_validMesh : PSpec := ⟨fun xs => match xs with | [.sl 2 les, .sl 3 tses] => isPs les ∧ isTs tses | _ => False, fun xs => match xs with | [.sl _ les, .sl _ tses] => (fun (l : List Pt) (ts : List Tr) => .bool (meshB l ts)) (toPs les) (toTs tses) | _ => .junk, false⟩
theorem gk_spec_validMesh : ∀ args, sp_spec_validMesh.pre args → ICall Try.prog 65 args (sp_spec_validMesh.val args) := by
  intro args h
  unfold sp_spec_validMesh at h ⊢; simp only at h ⊢; split at h
  · obtain ⟨h0, h1⟩ := h
    obtain ⟨l0, rfl⟩ := isP_ex h0
    obtain ⟨l1, rfl⟩ := isT_ex h1
    simp only [toPs_enc, toTs_enc] at *
    exact c_spec_validMesh _ _ 
  · exact h.elim
theorem en_spec_validMesh : Enters Try.prog 65 := enters_of Try.func65 (by kernel_rfl) rfl


/-- Is a point inside of the circle of a triangle? -/
def circS (l : List Pt) (t : Tr) (q : Pt) : Bool := decide (0 < sgnI (inC (triA l t) (triB l t) (triC l t) q))
def delT (l : List Pt) (t : Tr) : Bool := okT l t && !(l.any (circS l t))
/-- Are the triangles Delaunay? -/
def delB (l : List Pt) (ts : List Tr) : Bool := siteB l && decide (ts.length ≤ 40) && ts.all (delT l)
theorem del_split {l : List Pt} (ts : List Tr) (h : siteB l = true) : delB l ts = (meshB l ts && ts.all fun t => !(l.any (circS l t))) := by
  have hm : SmL l := by
    simp only [siteB, Bool.and_eq_true] at h; exact okPs_sm h.1
  have e : ts.all (delT l) = (ts.all (okTw l) && ts.all fun t => !(l.any (circS l t))) := by
    rw [Bool.eq_iff_iff]
    simp only [List.all_eq_true, Bool.and_eq_true, delT, okTw_eq hm]
    exact ⟨fun h => ⟨fun x hx => (h x hx).1, fun x hx => (h x hx).2⟩, fun h x hx => ⟨h.1 x hx, h.2 x hx⟩⟩
  unfold delB meshB
  rw [e, h]
  cases ts.all (okTw l) <;> cases decide (ts.length ≤ 40) <;> simp
theorem mesh_no {l : List Pt} {ts : List Tr} (h : meshB l ts = false) : delB l ts = false := by
  cases hs : siteB l with
  | false => unfold delB; rw [hs]; rfl
  | true => rw [del_split ts hs, h]; rfl
theorem site_vp {l : List Pt} (h : siteB l = true) : okPs l = true := by
  simp only [siteB, Bool.and_eq_true] at h; exact h.1
theorem mesh_facts {l : List Pt} {ts : List Tr} (h : meshB l ts = true) : siteB l = true ∧ ts.length ≤ 40 ∧ ts.all (okTw l) = true := by
  simp only [meshB, Bool.and_eq_true, decide_eq_true_eq] at h
  exact ⟨h.1.2, h.2, h.1.1⟩

def g_spec_IsDelaunay : List (Nat × PSpec) := [(65, sp_spec_validMesh), (66, sp_spec_inCircle)]
theorem gok_spec_IsDelaunay : GOK Try.prog g_spec_IsDelaunay := gok_cons gk_spec_validMesh en_spec_validMesh (gok_cons gk_spec_inCircle en_spec_inCircle (gok0))
theorem lk_spec_IsDelaunay_spec_validMesh : lkG g_spec_IsDelaunay 65 = sp_spec_validMesh := rfl
theorem lk_spec_IsDelaunay_spec_inCircle : lkG g_spec_IsDelaunay 66 = sp_spec_inCircle := rfl
def h_spec_IsDelaunay : List (Nat × HSpec) := []
theorem hok_spec_IsDelaunay : HOK Try.prog h_spec_IsDelaunay := hok0
theorem c_spec_IsDelaunay (l : List Pt) (ts : List Tr)  : ICall Try.prog 22 [.sl 2 (encPs l), .sl 3 (encTs ts)] (.bool (delB l ts)) := by
  refine icall_V (G := g_spec_IsDelaunay) (H := []) [(9, [(0, 28), (1, 28), (2, 28), (3, 28), (4, 28), (5, 28), (6, 28), (8, 28), (9, 28), (10, 28), (11, 28), (12, 28), (13, 28), (14, 28), (16, 28), (17, 28), (18, 28), (19, 28), (20, 28), (21, 28), (22, 28), (24, 28), (25, 28), (26, 28)])] tabOK mixed gok_spec_IsDelaunay hok_spec_IsDelaunay Try.func22 rfl Try.ntmps22 Try.results22 rfl (by kernel_rfl) fun F hN hlen => ?_
  have el := len_encPs l
  have et := len_encTs ts
  cases h1 : meshB l ts with
  | false =>
    have hn := mesh_no h1
    simp only [V_seq, V_ret, V_region, V_cond, brW_true, W_nil, W_cons, effOp2, KN_seq, KXr_nil, KXr_seq, QE, asB, effOp, effPure, effCall, giveUp, hasAll, pureV, ofC, strip, lkT, lkH, ISt.app, opI, gO, gB, allB, gval, wrapG, dstOK, setD, lendV, lendP, lent, lentP, idsV, idsL, lkHS, flat, clean, callArgs, callFn, allLent, enumT, Gives, Ideal.Fin, conv, conv0, Op.operands, reduceIte, reduceCtorEq, cond_true, Bool.or_false, Bool.not_true, Bool.not_false, Nat.reduceLT, Nat.reduceEqDiff, Nat.zero_add, and_self, implies_true, List.map_cons, List.map_nil, List.nil_append, List.cons_append, List.append_nil, ex_clo, or_self, hN, isPs_enc, toPs_enc, isTs_enc, toTs_enc, lk_spec_IsDelaunay_spec_validMesh, sp_spec_validMesh, h1, hn]
  | true =>
    obtain ⟨hs, h40, hok⟩ := mesh_facts h1
    have hv := del_split ts hs
    rw [h1, Bool.true_and] at hv
    have hk := site_vp hs
    have hn20 := okPs_len hk
    simp only [V_seq, V_skip, V_block, V_region, V_cond, brW_false, W_nil, W_cons, effOp2, KN_seq, asB, effOp, effPure, effCall, giveUp, hasAll, pureV, ofC, strip, lkT, lkH, ISt.app, opI, gO, gB, allB, gval, wrapG, dstOK, setD, lendV, lendP, lent, lentP, idsV, idsL, lkHS, flat, clean, callArgs, callFn, allLent, enumT, Op.operands, reduceIte, reduceCtorEq, cond_true, Bool.or_false, Bool.not_true, Nat.reduceLT, Nat.reduceEqDiff, Nat.zero_add, true_and, and_self, implies_true, List.map_cons, List.map_nil, List.nil_append, List.cons_append, List.append_nil, ex_clo, or_self, hN, isPs_enc, toPs_enc, isTs_enc, toTs_enc, lk_spec_IsDelaunay_spec_validMesh, sp_spec_validMesh, h1]
    refine V_loop (α := Nat) ⟨tabOK, mixed, gok_spec_IsDelaunay, hok_spec_IsDelaunay⟩ (by kernel_rfl) (fun i => i ≤ ts.length ∧ ∀ j, j < i → (!(l.any (circS l (tAt ts j)))) = true) (fun i => ⟨[(5, .num .i64 i), (0, .sl 2 (encPs l)), (1, .sl 3 (encTs ts))], []⟩) (fun i => ts.length - i) 0 id ⟨Nat.zero_le _, fun j h => absurd h (Nat.not_lt_zero j)⟩ (by simp [SLe, SLe0, convTm, convHp, conv, conv0, lkT, lkH, clean]) ?_
    rintro i ⟨hi, hj⟩
    simp only [V_seq, V_region, V_cond, W_nil, W_cons, effOp2, KN_seq, asB, effOp, effPure, pureV, binV, lenV, strip, lkT, ISt.app, opI, gO, gB, allB, gval, wrapG, dstOK, setD, Op.operands, Call.operands, List.append_toArray, reduceIte, reduceCtorEq, Nat.reduceLT, Nat.reduceEqDiff, ne_eq, not_false_eq_true, true_and, and_self, implies_true, List.nil_append, List.cons_append, List.append_nil, tab38, hN, et]
    refine brW_some (fun h => ?_) (fun h => ?_)
    · have hi' : i < ts.length := by simpa using h
      have hw := wr_succ hi' (by rw [maxLen_eq]; omega)
      have g0 := getD_encTs hi'
      have hall : (!(l.any (circS l (tAt ts i)))) = false → delB l ts = false := fun h => by rw [hv]; exact all_no (d := (0, 0, 0)) hi' h
      have hstep := fun h => lt_step (P := fun j => (!(l.any (circS l (tAt ts j)))) = true) hj h
      have hkt : okTw l (tAt ts i) = true := all_part (d := (0, 0, 0)) hok hi'
      generalize htt : tAt ts i = t at *
      have hid : idxOK l.length t = true := by simp only [okTw, Bool.and_eq_true] at hkt; exact hkt.1
      obtain ⟨⟨a0, a1⟩, ⟨b0, b1⟩, ⟨c0, c1⟩⟩ := idx_facts hid
      obtain ⟨t1, t2, t3⟩ := t
      simp only [] at a0 a1 b0 b1 c0 c1
      obtain ⟨x, rfl⟩ := nat_of a0
      obtain ⟨y, rfl⟩ := nat_of b0
      obtain ⟨z, rfl⟩ := nat_of c0
      have g1 := getD_encPs (l := l) (i := x) (by omega)
      have g2 := getD_encPs (l := l) (i := y) (by omega)
      have g3 := getD_encPs (l := l) (i := z) (by omega)
      have v1 := okPs_vp hk (i := x) (by omega)
      have v2 := okPs_vp hk (i := y) (by omega)
      have v3 := okPs_vp hk (i := z) (by omega)
      simp only [V_seq, V_skip, V_block, V_region, W_nil, W_cons, effOp2, KN_seq, effOp, effPure, pureV, ofC, strip, ISt.app, opI, gO, gB, allB, gval, wrapG, dstOK, setD, Op.operands, Nat.reduceLT, true_and, and_self, implies_true, List.nil_append, List.cons_append, List.append_nil, hN]
      refine V_loop (α := Nat) ⟨tabOK, mixed, gok_spec_IsDelaunay, hok_spec_IsDelaunay⟩ (by kernel_rfl) (fun k => k ≤ l.length ∧ ∀ c, c < k → circS l ((x : Int), (y : Int), (z : Int)) (pAt l c) = false) (fun k => ⟨[(6, .num .i64 k), (5, .num .i64 i), (0, .sl 2 (encPs l)), (1, .sl 3 (encTs ts))], []⟩) (fun k => l.length - k) 0 id ⟨Nat.zero_le _, fun j h => absurd h (Nat.not_lt_zero j)⟩ (by simp [SLe, SLe0, convTm, convHp, conv, conv0, lkT, lkH, clean]) ?_
      rintro k ⟨hki, hK⟩
      simp only [V_seq, V_region, V_cond, W_nil, W_cons, effOp2, KN_seq, asB, effOp, effPure, pureV, binV, lenV, strip, lkT, ISt.app, opI, gO, gB, allB, gval, wrapG, dstOK, setD, Op.operands, Call.operands, List.append_toArray, reduceIte, reduceCtorEq, Nat.reduceLT, Nat.reduceEqDiff, ne_eq, not_false_eq_true, true_and, and_self, implies_true, List.nil_append, List.cons_append, List.append_nil, tab23, hN, el]
      refine brW_some (fun h => ?_) (fun h => ?_)
      · have hk' : k < l.length := by simpa using h
        have hw2 := wr_succ hk' (by rw [maxLen_eq]; omega)
        have g4 := getD_encPs hk'
        have v4 := okPs_vp hk hk'
        have hcs : decide (0 < sgnI (inC (pAt l x) (pAt l y) (pAt l z) (pAt l k))) = circS l ((x : Int), (y : Int), (z : Int)) (pAt l k) := rfl
        cases c5 : circS l ((x : Int), (y : Int), (z : Int)) (pAt l k) with
        | true =>
          have hn := hall (by
            rw [Bool.not_eq_false']
            rw [List.any_eq_true]
            exact ⟨pAt l k, pA_mem hk', c5⟩)
          simp only [V_seq, V_skip, V_ret, V_block, V_region, V_draw, V_cond, brW_true, drawW, WS_nil, pairsOf, W_nil, W_cons, effOp2, WI_nil, WI_cons, KN_seq, KXr_nil, KXr_seq, KXr_block, KXr_back, QE, dynOK, indB, farB, freshB, heapy, asB, effOp, effPure, effCall, giveUp, hasAll, pureV, binV, partV, eltV, loadV, faddrV, iaddrV, ofC, strip, lkT, lkH, ISt.app, opI, gO, gB, allB, gval, wrapG, dstOK, setD, mentTm, mentHp, IV.ment, lendV, lendP, lent, lentP, idsV, idsL, lkHS, flat, clean, callArgs, callFn, allLent, Gives, Ideal.Fin, conv, conv0, Op.operands, Call.operands, List.append_toArray, reduceIte, reduceCtorEq, cond_true, cond_false, Bool.or_false, Bool.and_true, Bool.and_eq_true, Bool.not_true, Bool.not_false, Nat.reduceAdd, Nat.reduceLT, Nat.reduceLeDiff, Nat.reduceEqDiff, Nat.reduceBEq, Nat.add_zero, Nat.zero_add, ne_eq, not_false_eq_true, true_and, and_true, and_false, and_self, implies_true, forall_const, List.map_cons, List.map_nil, List.nil_append, List.cons_append, List.append_nil, List.getD_cons_zero, List.getD_cons_succ, List.length_cons, List.length_nil, List.take_succ_cons, List.take_zero, List.take_nil, List.drop_succ_cons, List.drop_zero, ex_clo, or_self, tab3, tab23, tab30, tab38, tab64, hN, pe, Int.toNat_natCast, lk_spec_IsDelaunay_spec_inCircle, sp_spec_inCircle, el, et, g0, g1, g2, g3, g4, v1, v2, v3, v4, hcs, c5, hn]
          omega
        | false =>
          simp only [V_seq, V_skip, V_block, V_region, V_draw, V_cond, brW_false, drawW, WS_nil, pairsOf, W_nil, W_cons, effOp2, WI_nil, WI_cons, KN_seq, KN_block, KN_back, dynOK, indB, farB, freshB, heapy, asB, effOp, effPure, effCall, giveUp, hasAll, pureV, binV, partV, eltV, loadV, faddrV, iaddrV, ofC, strip, lkT, lkH, ISt.app, opI, gO, gB, allB, gval, wrapG, dstOK, setD, mentTm, mentHp, IV.ment, lendV, lendP, lent, lentP, idsV, idsL, lkHS, flat, clean, callArgs, callFn, allLent, Op.operands, Call.operands, List.append_toArray, reduceIte, reduceCtorEq, cond_true, cond_false, Bool.or_false, Bool.and_true, Bool.and_eq_true, Bool.not_true, Bool.not_false, Nat.reduceAdd, Nat.reduceLT, Nat.reduceLeDiff, Nat.reduceEqDiff, Nat.reduceBEq, Nat.add_zero, Nat.zero_add, ne_eq, not_false_eq_true, true_and, and_true, and_false, and_self, implies_true, forall_const, List.map_cons, List.map_nil, List.nil_append, List.cons_append, List.append_nil, List.getD_cons_zero, List.getD_cons_succ, List.length_cons, List.length_nil, List.take_succ_cons, List.take_zero, List.take_nil, List.drop_succ_cons, List.drop_zero, ex_clo, or_self, tab3, tab23, tab30, tab38, tab64, hN, pe, Int.toNat_natCast, lk_spec_IsDelaunay_spec_inCircle, sp_spec_inCircle, el, et, g0, g1, g2, g3, g4, v1, v2, v3, v4, hcs, c5, hw2]
          repeat refine And.intro (by first | omega | (simp; done) | (simp; omega)) ?_
          exact ⟨k + 1, id, ⟨by omega, lt_step hK c5⟩, by simp only []; omega, by simp [SLe, SLe0, convTm, convHp, conv, conv0, lkT, lkH, clean]⟩
      · have hie : k = l.length := by simp at h; omega
        subst hie
        have hst := hstep (by
          rw [Bool.not_eq_true', List.any_eq_false]
          intro p hp
          obtain ⟨c, hc, rfl⟩ := mem_pA hp
          rw [hK c hc]; decide)
        simp only [V_seq, V_ret, V_exit, V_region, W_nil, W_cons, effOp2, KN_seq, KN_block, KN_back, KXr_nil, KXe_nil, KXe_seq, KXe_block, KXe_back, QE, effOp, effPure, pureV, binV, ofC, strip, lkT, lkH, ISt.app, opI, gO, gB, allB, gval, wrapG, dstOK, setD, clean, Gives, Ideal.Fin, conv, conv0, Op.operands, reduceIte, reduceCtorEq, Nat.reduceLT, Nat.reduceEqDiff, true_and, and_true, and_self, implies_true, List.nil_append, List.cons_append, List.append_nil, hN, hw]
        exact ⟨i + 1, id, ⟨by omega, hst⟩, by simp only []; omega, by simp [SLe, SLe0, convTm, convHp, conv, conv0, lkT, lkH, clean]⟩
    · have hie : i = ts.length := by simp at h; omega
      subst hie
      have ha := all_yes (p := fun t => !(l.any (circS l t))) (d := (0, 0, 0)) hj
      rw [ha] at hv
      simp only [V_seq, V_ret, V_exit, V_region, W_nil, W_cons, effOp2, KN_seq, KXr_nil, KXe_nil, KXe_seq, KXe_block, KXe_back, QE, effOp, effPure, pureV, ofC, strip, lkT, lkH, ISt.app, opI, gO, gB, allB, gval, wrapG, dstOK, setD, clean, Gives, Ideal.Fin, conv, conv0, Op.operands, reduceIte, reduceCtorEq, Nat.reduceLT, Nat.reduceEqDiff, and_self, implies_true, List.nil_append, List.cons_append, List.append_nil, hN, hv]
def sp_spec_IsDelaunay : PSpec := ⟨fun xs => match xs with | [.sl 2 les, .sl 3 tses] => isPs les ∧ isTs tses | _ => False, fun xs => match xs with | [.sl _ les, .sl _ tses] => (fun (l : List Pt) (ts : List Tr) => .bool (delB l ts)) (toPs les) (toTs tses) | _ => .junk, false⟩
theorem gk_spec_IsDelaunay : ∀ args, sp_spec_IsDelaunay.pre args → ICall Try.prog 22 args (sp_spec_IsDelaunay.val args) := by
  intro args h
  unfold sp_spec_IsDelaunay at h ⊢; simp only at h ⊢; split at h
  · obtain ⟨h0, h1⟩ := h
    obtain ⟨l0, rfl⟩ := isP_ex h0
    obtain ⟨l1, rfl⟩ := isT_ex h1
    simp only [toPs_enc, toTs_enc] at *
    exact c_spec_IsDelaunay _ _ 
  · exact h.elim
theorem en_spec_IsDelaunay : Enters Try.prog 22 := enters_of Try.func22 (by kernel_rfl) rfl


end Go.Proofs.Ytmcpjnaedgpenaa
