/- Circles that enclose points: which points determine one, and which points it has. -/
import Derived.Test.YtemppebemahkoaaBI
import Derived.Test.YtemppebemahkoaaB60
import Derived.Test.YtemppebemahkoaaPl34
set_option linter.unusedVariables false
set_option linter.unusedSimpArgs false
set_option maxHeartbeats 1600000
set_option maxRecDepth 100000
namespace Go.Proofs.Ytemppebemahkoaa
open Go Go.Ideal Go.Pl Go.Sort

theorem tn0 : Int.toNat 0 = 0 := rfl
theorem tn1 : Int.toNat 1 = 1 := rfl
theorem tn2 : Int.toNat 2 = 2 := rfl
theorem ci1 : ((1 : Nat) : Int) = 1 := rfl
theorem ci2 : ((2 : Nat) : Int) = 2 := rfl
theorem ci3 : ((3 : Nat) : Int) = 3 := rfl
theorem ci0 : ((0 : Nat) : Int) = 0 := rfl
theorem xe01 : ((0 : Int) == 1) = false := rfl
theorem xe02 : ((0 : Int) == 2) = false := rfl
theorem xe03 : ((0 : Int) == 3) = false := rfl
theorem xe11 : ((1 : Int) == 1) = true := rfl
theorem xe21 : ((2 : Int) == 1) = false := rfl
theorem xe22 : ((2 : Int) == 2) = true := rfl
theorem xe31 : ((3 : Int) == 1) = false := rfl
theorem xe32 : ((3 : Int) == 2) = false := rfl
theorem xe33 : ((3 : Int) == 3) = true := rfl
def selI (l : List Pt) (w : List Int) : List Pt := w.map fun k => pAt l k.toNat
theorem selI_len (l : List Pt) (w : List Int) : (selI l w).length = w.length := by simp [selI]
theorem selI_step {l : List Pt} {w : List Int} {i : Nat} (h : i < w.length) : selI l (w.take (i + 1)) = selI l (w.take i) ++ [pAt l (w.getD i 0).toNat] := by
  rw [take_succ_g (d := 0) h]; simp [selI]
theorem selI_vp {l : List Pt} {w : List Int} (hk : okPs l = true) (hw : ∀ x ∈ w, 0 ≤ x ∧ x < (l.length : Int)) : ∀ p ∈ selI l w, Vp p := by
  intro k hk2
  simp only [selI, List.mem_map] at hk2
  obtain ⟨x, hx, rfl⟩ := hk2
  have := hw x hx
  exact okPs_vp hk (by omega)
theorem vp_way {p q : Pt} (hp : Vp p) (hq : Vp q) : (-2000 ≤ p.1 - q.1 ∧ p.1 - q.1 ≤ 2000) ∧ (-2000 ≤ p.2 - q.2 ∧ p.2 - q.2 ≤ 2000) := by
  unfold Vp at hp hq; omega
theorem dotV_bd {a b c : Pt} (ha : Vp a) (hb : Vp b) (hc : Vp c) : (-4000000 ≤ (b.1 - a.1) * (c.1 - a.1) ∧ (b.1 - a.1) * (c.1 - a.1) ≤ 4000000) ∧ (-4000000 ≤ (b.2 - a.2) * (c.2 - a.2) ∧ (b.2 - a.2) * (c.2 - a.2) ≤ 4000000) := by
  have h1 := vp_way hb ha
  have h2 := vp_way hc ha
  have m1 := mulb (A := 2000) (B := 2000) h1.1 h2.1
  have m2 := mulb (A := 2000) (B := 2000) h1.2 h2.2
  omega
def g_spec_dot : List (Nat × PSpec) := []
theorem gok_spec_dot : GOK Try.prog g_spec_dot := gok0
def h_spec_dot : List (Nat × HSpec) := []
theorem hok_spec_dot : HOK Try.prog h_spec_dot := hok0
theorem c_spec_dot (a : Pt) (b : Pt) (c : Pt) (ha : Vp a) (hb : Vp b) (hc : Vp c) : ICall Try.prog 172 [encP a, encP b, encP c] (.num .i64 (dotV a b c)) := by
  refine icall_V (G := g_spec_dot) (H := []) [] tabOK mixed gok_spec_dot hok_spec_dot Try.func172 rfl Try.ntmps172 Try.results172 rfl (by kernel_rfl) fun F hN hlen => ?_
  have h1 := vp_way hb ha
  have h2 := vp_way hc ha
  have m := dotV_bd ha hb hc
  have w1 : IntKind.i64.wrap (b.1 - a.1) = b.1 - a.1 := wr (by omega) (by omega)
  have w2 : IntKind.i64.wrap (b.2 - a.2) = b.2 - a.2 := wr (by omega) (by omega)
  have w3 : IntKind.i64.wrap (c.1 - a.1) = c.1 - a.1 := wr (by omega) (by omega)
  have w4 : IntKind.i64.wrap (c.2 - a.2) = c.2 - a.2 := wr (by omega) (by omega)
  have w5 : IntKind.i64.wrap ((b.1 - a.1) * (c.1 - a.1)) = (b.1 - a.1) * (c.1 - a.1) := wr (by omega) (by omega)
  have w6 : IntKind.i64.wrap ((b.2 - a.2) * (c.2 - a.2)) = (b.2 - a.2) * (c.2 - a.2) := wr (by omega) (by omega)
  have w7 : IntKind.i64.wrap ((b.1 - a.1) * (c.1 - a.1) + (b.2 - a.2) * (c.2 - a.2)) = (b.1 - a.1) * (c.1 - a.1) + (b.2 - a.2) * (c.2 - a.2) := wr (by omega) (by omega)
  simp only [V_seq, V_ret, V_region, W_nil, W_cons, effOp2, KN_seq, KXr_nil, QE, effOp, effPure, effNew, effBox, skipE, pureV, binV, partV, loadV, faddrV, solid, IV.cells, ofC, strip, lkT, lkH, ISt.app, opI, gO, gB, allB, gval, wrapG, dstOK, setD, mentTm, mentHp, IV.ment, IV.mentL, oneI, clean, enumT, Gives, Ideal.Fin, conv, conv0, IBlk.shape, Op.operands, reduceIte, reduceCtorEq, cond_true, Bool.or_false, Bool.and_true, Nat.reduceAdd, Nat.reduceLT, Nat.reduceLeDiff, Nat.reduceEqDiff, Nat.reduceBEq, Nat.add_zero, Nat.zero_add, and_self, implies_true, List.nil_append, List.cons_append, List.append_nil, List.all_cons, List.all_nil, Option.map_some, List.getD_cons_zero, List.getD_cons_succ, List.length_cons, List.length_nil, List.take_succ_cons, List.take_zero, List.take_nil, List.drop_succ_cons, List.drop_zero, tab3, tab30, hN, encP, w1, w2, w3, w4, w5, w6, w7, dotV]
def sp_spec_dot : PSpec := ⟨fun xs => match xs with | [.agg [.num .i64 a1, .num .i64 a2], .agg [.num .i64 b1, .num .i64 b2], .agg [.num .i64 c1, .num .i64 c2]] => ((fun (a : Pt) (b : Pt) (c : Pt) => Vp a) (a1, a2) (b1, b2) (c1, c2)) ∧ ((fun (a : Pt) (b : Pt) (c : Pt) => Vp b) (a1, a2) (b1, b2) (c1, c2)) ∧ ((fun (a : Pt) (b : Pt) (c : Pt) => Vp c) (a1, a2) (b1, b2) (c1, c2)) | _ => False, fun xs => match xs with | [.agg [.num _ a1, .num _ a2], .agg [.num _ b1, .num _ b2], .agg [.num _ c1, .num _ c2]] => (fun (a : Pt) (b : Pt) (c : Pt) => .num .i64 (dotV a b c)) (a1, a2) (b1, b2) (c1, c2) | _ => .junk, false⟩
theorem gk_spec_dot : ∀ args, sp_spec_dot.pre args → ICall Try.prog 172 args (sp_spec_dot.val args) := by
  intro args h
  unfold sp_spec_dot at h ⊢; simp only at h ⊢; split at h
  · obtain ⟨h0, h1, h2⟩ := h
    simp only [toPs_enc] at *
    exact c_spec_dot (_, _) (_, _) (_, _) h0 h1 h2
  · exact h.elim
theorem en_spec_dot : Enters Try.prog 172 := enters_of Try.func172 (by kernel_rfl) rfl

theorem sgn1 (x : Int) : -1 ≤ sgnI x ∧ sgnI x ≤ 1 := by unfold sgnI; split <;> (try split) <;> omega
def g_spec_inSupport : List (Nat × PSpec) := [(172, sp_spec_dot), (219, sp_spec_inCircle), (171, sp_spec_cross), (198, sp_spec_sign)]
theorem gok_spec_inSupport : GOK Try.prog g_spec_inSupport := gok_cons gk_spec_dot en_spec_dot (gok_cons gk_spec_inCircle en_spec_inCircle (gok_cons gk_spec_cross en_spec_cross (gok_cons gk_spec_sign en_spec_sign (gok0))))
theorem lk_spec_inSupport_spec_dot : lkG g_spec_inSupport 172 = sp_spec_dot := rfl
theorem lk_spec_inSupport_spec_inCircle : lkG g_spec_inSupport 219 = sp_spec_inCircle := rfl
theorem lk_spec_inSupport_spec_cross : lkG g_spec_inSupport 171 = sp_spec_cross := rfl
theorem lk_spec_inSupport_spec_sign : lkG g_spec_inSupport 198 = sp_spec_sign := rfl
def h_spec_inSupport : List (Nat × HSpec) := []
theorem hok_spec_inSupport : HOK Try.prog h_spec_inSupport := hok0
theorem c_spec_inSupport (l : List Pt) (w : List Int) (q : Pt) (hk : okPs l = true) (hq : Vp q) (hw : ∀ x ∈ w, 0 ≤ x ∧ x < (l.length : Int)) (h1 : 1 ≤ w.length ∧ w.length ≤ 3) : ICall Try.prog 173 [.sl 2 (encPs l), .sl 1 (encI w), encP q] (.bool (encS (selI l w) q)) := by
  refine icall_V (G := g_spec_inSupport) (H := []) [(6, [(2, 8), (3, 8), (4, 8), (5, 8), (6, 8)]), (9, [(4, 5), (4, 6), (4, 7), (0, 8), (1, 8), (2, 8), (3, 8), (0, 9), (1, 9), (2, 9), (3, 9), (4, 9), (5, 9), (6, 9), (7, 9), (8, 10), (4, 11), (8, 11), (9, 11)])] tabOK mixed gok_spec_inSupport hok_spec_inSupport Try.func173 rfl Try.ntmps173 Try.results173 rfl (by kernel_rfl) fun F hN hlen => ?_
  have el := len_encPs l
  have hat : ∀ k ∈ w, ∃ i : Nat, k = (i : Int) ∧ i < l.length := fun k hk => ⟨k.toNat, by have := hw k hk; omega, by have := hw k hk; omega⟩
  rcases w with _ | ⟨x, _ | ⟨y, _ | ⟨z, r⟩⟩⟩
  · simp at h1
  · obtain ⟨i, rfl, hi⟩ := hat x (by simp)
    have g0 := getD_encPs hi
    have e : encI [(i : Int)] = [.num .i64 (i : Int)] := rfl
    have hv : encS (selI l [(i : Int)]) q = (pAt l i == q) := rfl
    have b0 : (0 : Int) ≤ i ∧ (i : Int) < l.length := by omega
    simp only [V_seq, V_ret, V_block, V_region, V_cond, brW_true, W_nil, W_cons, effOp2, KN_seq, KXr_nil, KXr_seq, KXr_block, QE, asB, effOp, effPure, effNew, effAlloc, effBox, effStore, skipE, pureV, storeV, binV, partV, eltV, loadV, iaddrV, lenV, over, solid, IV.cells, ofC, strip, lkT, lkH, ISt.app, opI, gO, gB, allB, gval, wrapG, dstOK, setD, mentTm, mentHp, IV.ment, IV.mentL, oneI, clean, enumT, Gives, Ideal.Fin, conv, conv0, eqL, numsOnly, Op.operands, Call.operands, List.append_toArray, reduceIte, reduceCtorEq, cond_true, Bool.or_false, Bool.and_true, Nat.reduceAdd, Nat.reduceLT, Nat.reduceLeDiff, Nat.reduceEqDiff, Nat.reduceBEq, Nat.zero_add, ne_eq, not_false_eq_true, beq_self_eq_true, true_and, and_true, and_false, and_self, implies_true, forall_const, List.nil_append, List.cons_append, List.append_nil, List.all_cons, List.all_nil, List.getD_cons_zero, List.length_cons, List.length_nil, List.take_succ_cons, List.take_zero, List.take_nil, List.drop_succ_cons, List.drop_zero, List.drop_nil, tab3, tab23, tab25, tab30, hN, Int.toNat_natCast, encP, el, e, g0, hv, eqP, tn0, ci1, List.getD_cons_zero, Int.toNat_natCast]
    exact ⟨⟨by omega, by omega⟩, by omega, by omega⟩
  · obtain ⟨i, rfl, hi⟩ := hat x (by simp)
    obtain ⟨j, rfl, hj⟩ := hat y (by simp)
    have g0 := getD_encPs hi
    have g1 := getD_encPs hj
    have e : encI [(i : Int), (j : Int)] = [.num .i64 (i : Int), .num .i64 (j : Int)] := rfl
    have hv : encS (selI l [(i : Int), (j : Int)]) q = decide (dotV q (pAt l i) (pAt l j) ≤ 0) := rfl
    have v0 := okPs_vp hk hi
    have v1 := okPs_vp hk hj
    simp only [V_seq, V_ret, V_block, V_region, V_draw, V_cond, brW_true, brW_false, drawW, WS_nil, WS_cons, pairsOf, W_nil, W_cons, effOp2, effOp3, WI_nil, WI_cons, KN_seq, KXr_nil, KXr_seq, KXr_block, QE, dynOK, indB, farB, freshB, freshK, freshK1, heapy, asB, effOp, effPure, effNew, effAlloc, effBox, effStore, effCall, giveUp, hasAll, skipE, pureV, storeV, binV, partV, eltV, loadV, iaddrV, lenV, over, solid, IV.cells, ofC, strip, lkT, lkH, ISt.app, opI, gO, gB, allB, gval, wrapG, dstOK, setD, mentTm, mentHp, IV.ment, IV.mentL, oneI, lendV, lendP, lent, lentP, idsV, idsL, lkHS, flat, clean, callArgs, callFn, allLent, enumT, Gives, Ideal.Fin, conv, conv0, Op.operands, Call.operands, List.append_toArray, reduceIte, reduceCtorEq, cond_true, cond_false, Bool.or_false, Bool.and_true, Bool.and_eq_true, Bool.not_true, Bool.not_false, Nat.reduceAdd, Nat.reduceLT, Nat.reduceLeDiff, Nat.reduceEqDiff, Nat.reduceBEq, Nat.zero_add, ne_eq, not_false_eq_true, beq_self_eq_true, true_and, and_true, and_false, and_self, implies_true, forall_const, List.map_cons, List.map_nil, List.nil_append, List.cons_append, List.append_nil, List.all_cons, List.all_nil, List.getD_cons_zero, List.getD_cons_succ, List.length_cons, List.length_nil, List.take_succ_cons, List.take_zero, List.take_nil, List.drop_succ_cons, List.drop_zero, List.drop_nil, ex_clo, or_self, tab3, tab23, tab25, tab30, hN, pe, Int.toNat_natCast, encP, lk_spec_inSupport_spec_dot, sp_spec_dot, el, e, g0, g1, hv, hq, v0, v1, tn0, tn1, ci2, xe21, List.getD_cons_zero, List.getD_cons_succ, Int.toNat_natCast]
    exact ⟨⟨by omega, by omega⟩, ⟨by omega, by omega⟩, ⟨by omega, by omega⟩, by omega, by omega⟩
  · rcases r with _ | ⟨u, r⟩
    · obtain ⟨i, rfl, hi⟩ := hat x (by simp)
      obtain ⟨j, rfl, hj⟩ := hat y (by simp)
      obtain ⟨k, rfl, hkl⟩ := hat z (by simp)
      have g0 := getD_encPs hi
      have g1 := getD_encPs hj
      have g2 := getD_encPs hkl
      have e : encI [(i : Int), (j : Int), (k : Int)] = [.num .i64 (i : Int), .num .i64 (j : Int), .num .i64 (k : Int)] := rfl
      have hv : encS (selI l [(i : Int), (j : Int), (k : Int)]) q = decide (0 ≤ sgnI (inC (pAt l i) (pAt l j) (pAt l k) q) * sgnI (turn (pAt l i) (pAt l j) (pAt l k))) := rfl
      have v0 := okPs_vp hk hi
      have v1 := okPs_vp hk hj
      have v2 := okPs_vp hk hkl
      have s0 := v0.sm
      have s1 := v1.sm
      have s2 := v2.sm
      have w1 : IntKind.i64.wrap (sgnI (inC (pAt l i) (pAt l j) (pAt l k) q) * sgnI (turn (pAt l i) (pAt l j) (pAt l k))) = sgnI (inC (pAt l i) (pAt l j) (pAt l k) q) * sgnI (turn (pAt l i) (pAt l j) (pAt l k)) := by
        have := mulb (A := 1) (B := 1) (sgn1 (inC (pAt l i) (pAt l j) (pAt l k) q)) (sgn1 (turn (pAt l i) (pAt l j) (pAt l k)))
        exact wr (by omega) (by omega)
      simp only [V_seq, V_skip, V_ret, V_block, V_region, V_draw, V_cond, brW_false, drawW, WS_nil, WS_cons, pairsOf, W_nil, W_cons, effOp2, effOp3, WI_nil, WI_cons, KN_seq, KN_block, KXr_nil, QE, dynOK, indB, farB, freshB, freshK, freshK1, heapy, asB, effOp, effPure, effNew, effAlloc, effBox, effStore, effCall, giveUp, hasAll, skipE, pureV, storeV, binV, partV, eltV, loadV, iaddrV, lenV, over, solid, IV.cells, ofC, strip, lkT, lkH, ISt.app, opI, gO, gB, allB, gval, wrapG, dstOK, setD, mentTm, mentHp, IV.ment, IV.mentL, oneI, lendV, lendP, lent, lentP, idsV, idsL, lkHS, flat, clean, callArgs, callFn, allLent, enumT, Gives, Ideal.Fin, conv, conv0, Op.operands, Call.operands, List.append_toArray, reduceIte, reduceCtorEq, cond_true, cond_false, Bool.or_false, Bool.and_true, Bool.true_and, Bool.and_eq_true, Bool.not_true, Bool.not_false, Nat.reduceAdd, Nat.reduceLT, Nat.reduceLeDiff, Nat.reduceEqDiff, Nat.reduceBEq, Nat.zero_add, ne_eq, not_false_eq_true, true_and, and_true, and_false, and_self, implies_true, forall_const, List.map_cons, List.map_nil, List.nil_append, List.cons_append, List.append_nil, List.all_cons, List.all_nil, List.getD_cons_zero, List.getD_cons_succ, List.length_cons, List.length_nil, List.take_succ_cons, List.take_zero, List.take_nil, List.drop_succ_cons, List.drop_zero, List.drop_nil, ex_clo, or_self, tab3, tab23, tab25, tab30, hN, pe, Int.toNat_natCast, encP, lk_spec_inSupport_spec_inCircle, lk_spec_inSupport_spec_cross, lk_spec_inSupport_spec_sign, sp_spec_inCircle, sp_spec_cross, sp_spec_sign, el, e, g0, g1, g2, hv, hq, v0, v1, v2, s0, s1, s2, w1, tn0, tn1, tn2, ci3, xe31, xe32, List.getD_cons_zero, List.getD_cons_succ, Int.toNat_natCast]
      exact ⟨⟨by omega, by omega⟩, ⟨by omega, by omega⟩, ⟨by omega, by omega⟩, ⟨by omega, by omega⟩, ⟨by omega, by omega⟩, by omega, by omega⟩
    · simp at h1
def sp_spec_inSupport : PSpec := ⟨fun xs => match xs with | [.sl 2 les, .sl 1 wes, .agg [.num .i64 q1, .num .i64 q2]] => isPs les ∧ isIs wes ∧ ((fun (l : List Pt) (w : List Int) (q : Pt) => okPs l = true) (toPs les) (toIs wes) (q1, q2)) ∧ ((fun (l : List Pt) (w : List Int) (q : Pt) => Vp q) (toPs les) (toIs wes) (q1, q2)) ∧ ((fun (l : List Pt) (w : List Int) (q : Pt) => ∀ x ∈ w, 0 ≤ x ∧ x < (l.length : Int)) (toPs les) (toIs wes) (q1, q2)) ∧ ((fun (l : List Pt) (w : List Int) (q : Pt) => 1 ≤ w.length ∧ w.length ≤ 3) (toPs les) (toIs wes) (q1, q2)) | _ => False, fun xs => match xs with | [.sl _ les, .sl _ wes, .agg [.num _ q1, .num _ q2]] => (fun (l : List Pt) (w : List Int) (q : Pt) => .bool (encS (selI l w) q)) (toPs les) (toIs wes) (q1, q2) | _ => .junk, false⟩
theorem gk_spec_inSupport : ∀ args, sp_spec_inSupport.pre args → ICall Try.prog 173 args (sp_spec_inSupport.val args) := by
  intro args h
  unfold sp_spec_inSupport at h ⊢; simp only at h ⊢; split at h
  · obtain ⟨h0, h1, h2, h3, h4, h5⟩ := h
    obtain ⟨l0, rfl⟩ := isP_ex h0
    obtain ⟨l1, rfl⟩ := isI_ex h1
    simp only [toPs_enc, toIs_enc] at *
    exact c_spec_inSupport _ _ (_, _) h2 h3 h4 h5
  · exact h.elim
theorem en_spec_inSupport : Enters Try.prog 173 := enters_of Try.func173 (by kernel_rfl) rfl

end Go.Proofs.Ytemppebemahkoaa
