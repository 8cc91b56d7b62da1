/- Contracts: quotients in lowest terms; fractions in order, points of fractions inserted. -/
import Derived.Test.YtemppebemahkoaaBQ
import Derived.Test.YtemppebemahkoaaBG
import Derived.Test.YtemppebemahkoaaPl17
set_option linter.unusedVariables false
set_option linter.unusedSimpArgs false
set_option maxHeartbeats 1600000
set_option maxRecDepth 100000
namespace Go.Proofs.Ytemppebemahkoaa
open Go Go.Ideal Go.Pl Go.Sort

theorem red_wr {n d : Int} (hd : 0 < d) (h2 : d ≤ 20000000) (hn : -20000000000 ≤ n ∧ n ≤ 20000000000) : 0 < (Int.gcd n d : Int) ∧ (Int.gcd n d : Int) ≤ 20000000 ∧ IntKind.i64.wrap (n.tdiv (Int.gcd n d)) = (redR n d).1 ∧ IntKind.i64.wrap (d.tdiv (Int.gcd n d)) = (redR n d).2 := by
  obtain ⟨hg, _⟩ := red_gcd (n := n) (d := d) (by omega)
  obtain ⟨h3, h4, h5, h6, h7⟩ := red_good hd h2 hn
  have e1 : n.tdiv (Int.gcd n d) = (redR n d).1 := rfl
  have e2 : d.tdiv (Int.gcd n d) = (redR n d).2 := rfl
  have h8 : (Int.gcd n d : Int) ≤ 20000000 := by
    have : Int.gcd n d ≤ d.natAbs := Nat.gcd_le_right _ (by omega)
    omega
  exact ⟨hg, h8, by rw [e1]; exact wr (by omega) (by omega), by rw [e2]; exact wr (by omega) (by omega)⟩
/-- A quotient by a number that is not 0. -/
def ratQ (n d : Int) : Pt := redR (sgT (decide (d < 0)) n) (sgT (decide (d < 0)) d)
theorem rat_pos {n d : Int} (h : 0 < d) : ratQ n d = redR n d := by
  have : decide (d < 0) = false := by simp only [decide_eq_false_iff_not]; omega
  rw [ratQ, this]; rfl
def g_impl_reduced : List (Nat × PSpec) := [(182, sp_impl_divisor)]
theorem gok_impl_reduced : GOK Try.prog g_impl_reduced := gok_cons gk_impl_divisor en_impl_divisor (gok0)
theorem lk_impl_reduced_impl_divisor : lkG g_impl_reduced 182 = sp_impl_divisor := rfl
def h_impl_reduced : List (Nat × HSpec) := []
theorem hok_impl_reduced : HOK Try.prog h_impl_reduced := hok0
theorem c_impl_reduced (n : Int) (d : Int) (hd : d ≠ 0) (h2 : -20000000 ≤ d ∧ d ≤ 20000000) (hn : -20000000000 ≤ n ∧ n ≤ 20000000000) : ICall Try.prog 110 [.num .i64 n, .num .i64 d] (encP (ratQ n d)) := by
  refine icall_of_hcall (v := encP (ratQ n d)) (hp' := []) id ?_ (by simp [SLe0, convTm, convHp, conv, convL, conv0, lkT, clean, encP]) (by simp [idsV, idsL, encP])
  refine hcall_V (G := g_impl_reduced) (H := []) [] tabOK mixed gok_impl_reduced hok_impl_reduced Try.func110 rfl Try.ntmps110 Try.results110 rfl (by kernel_rfl) fun F hN hlen => ?_
  have z1 : -9223372036854775807 ≤ n ∧ n ≤ 9223372036854775807 := by omega
  have z2 : -9223372036854775807 ≤ d ∧ d ≤ 9223372036854775807 := by omega
  cases hs : decide (d < 0) with
  | false =>
    have hd0 : 0 < d := by have := of_decide_eq_false hs; omega
    obtain ⟨q1, q2, q3, q4⟩ := red_wr hd0 h2.2 hn
    have hv := rat_pos (n := n) hd0
    have hg0 : (Int.gcd n d : Int) ≠ 0 := by omega
    simp only [V_seq, V_skip, V_ret, V_region, V_draw, V_cond, brW_false, drawW, pairsOf, W_nil, W_cons, WD_nil, WD_cons, effOp2, effOp3, KN_seq, KXr_nil, QE, asB, effOp, effPure, effNew, effAlloc, effStore, effCall, giveUp, hasAll, skipE, pureV, storeV, binV, partV, loadV, over, solid, buildL, IV.cells, ofC, strip, lkT, lkH, ISt.app, opI, gO, gB, allB, gval, wrapG, dstOK, setD, mentTm, mentHp, IV.ment, oneI, lendV, lendP, lent, lentP, idsV, idsL, lkHS, flat, clean, callArgs, callFn, allLent, enumT, conv, conv0, convL, Op.operands, reduceIte, reduceCtorEq, cond_true, Bool.or_false, Bool.and_true, Bool.not_true, Nat.reduceAdd, Nat.reduceLT, Nat.reduceLeDiff, Nat.reduceEqDiff, Nat.zero_add, ne_eq, not_false_eq_true, true_and, and_false, and_self, implies_true, List.map_cons, List.map_nil, List.nil_append, List.cons_append, List.append_nil, List.all_cons, List.all_nil, List.getD_cons_zero, List.getD_cons_succ, List.length_cons, List.length_nil, List.take_succ_cons, List.take_zero, List.take_nil, List.drop_succ_cons, List.drop_zero, List.drop_nil, ex_clo, or_self, tab58, hN, encP, FinH, resA, resV, SLe, SLe0, convTm, convHp, lk_impl_reduced_impl_divisor, sp_impl_divisor, z1, z2, hs, q3, q4, hv, hg0]
    exact ⟨id, List.nodup_nil, fun _ _ _ => rfl⟩
  | true =>
    have hd0 : d < 0 := of_decide_eq_true hs
    obtain ⟨q1, q2, q3, q4⟩ := red_wr (n := -n) (d := -d) (by omega) (by omega) (by omega)
    have eg : (Int.gcd (-n) (-d) : Int) = Int.gcd n d := by rw [Int.neg_gcd, Int.gcd_neg]
    rw [eg] at q1 q2 q3 q4
    have hv : ratQ n d = redR (-n) (-d) := by rw [ratQ, hs]; rfl
    have w1 : IntKind.i64.wrap (-(Int.gcd n d : Int)) = -(Int.gcd n d : Int) := wr (by omega) (by omega)
    have t1 : n.tdiv (-(Int.gcd n d : Int)) = (-n).tdiv (Int.gcd n d) := by rw [Int.tdiv_neg, Int.neg_tdiv]
    have t2 : d.tdiv (-(Int.gcd n d : Int)) = (-d).tdiv (Int.gcd n d) := by rw [Int.tdiv_neg, Int.neg_tdiv]
    have hg0 : -(Int.gcd n d : Int) ≠ 0 := by omega
    simp only [V_seq, V_ret, V_region, V_draw, V_cond, brW_true, drawW, pairsOf, W_nil, W_cons, WD_nil, WD_cons, effOp2, effOp3, KN_seq, KXr_nil, QE, asB, effOp, effPure, effNew, effAlloc, effStore, effCall, giveUp, hasAll, skipE, pureV, storeV, binV, partV, loadV, over, solid, buildL, IV.cells, ofC, strip, lkT, lkH, ISt.app, opI, gO, gB, allB, gval, wrapG, dstOK, setD, mentTm, mentHp, IV.ment, oneI, lendV, lendP, lent, lentP, idsV, idsL, lkHS, flat, clean, callArgs, callFn, allLent, enumT, conv, conv0, convL, Op.operands, reduceIte, reduceCtorEq, cond_true, Bool.or_false, Bool.and_true, Bool.not_true, Nat.reduceAdd, Nat.reduceLT, Nat.reduceLeDiff, Nat.reduceEqDiff, Nat.zero_add, ne_eq, not_false_eq_true, true_and, and_false, and_self, implies_true, List.map_cons, List.map_nil, List.nil_append, List.cons_append, List.append_nil, List.all_cons, List.all_nil, List.getD_cons_zero, List.getD_cons_succ, List.length_cons, List.length_nil, List.take_succ_cons, List.take_zero, List.take_nil, List.drop_succ_cons, List.drop_zero, List.drop_nil, ex_clo, or_self, tab58, hN, encP, FinH, resA, resV, SLe, SLe0, convTm, convHp, lk_impl_reduced_impl_divisor, sp_impl_divisor, z1, z2, hs, w1, t1, t2, q3, q4, hv, hg0]
    exact ⟨id, List.nodup_nil, fun _ _ _ => rfl⟩
def sp_impl_reduced : PSpec := ⟨fun xs => match xs with | [.num .i64 n, .num .i64 d] => ((fun (n : Int) (d : Int) => d ≠ 0) n d) ∧ ((fun (n : Int) (d : Int) => -20000000 ≤ d ∧ d ≤ 20000000) n d) ∧ ((fun (n : Int) (d : Int) => -20000000000 ≤ n ∧ n ≤ 20000000000) n d) | _ => False, fun xs => match xs with | [.num _ n, .num _ d] => (fun (n : Int) (d : Int) => encP (ratQ n d)) n d | _ => .junk, false⟩
theorem gk_impl_reduced : ∀ args, sp_impl_reduced.pre args → ICall Try.prog 110 args (sp_impl_reduced.val args) := by
  intro args h
  unfold sp_impl_reduced at h ⊢; simp only at h ⊢; split at h
  · obtain ⟨h0, h1, h2⟩ := h
    simp only [toPs_enc] at *
    exact c_impl_reduced _ _ h0 h1 h2
  · exact h.elim
theorem en_impl_reduced : Enters Try.prog 110 := enters_of Try.func110 (by kernel_rfl) rfl

theorem red_abs {n d : Int} (hd : 0 < d) : Int.gcd (absI n) d = Int.gcd n d := by
  unfold absI; split
  · exact Int.neg_gcd
  · rfl
def g_spec_ratio : List (Nat × PSpec) := [(158, sp_spec_abs), (188, sp_spec_gcd)]
theorem gok_spec_ratio : GOK Try.prog g_spec_ratio := gok_cons gk_spec_abs en_spec_abs (gok_cons gk_spec_gcd en_spec_gcd (gok0))
theorem lk_spec_ratio_spec_abs : lkG g_spec_ratio 158 = sp_spec_abs := rfl
theorem lk_spec_ratio_spec_gcd : lkG g_spec_ratio 188 = sp_spec_gcd := rfl
def h_spec_ratio : List (Nat × HSpec) := []
theorem hok_spec_ratio : HOK Try.prog h_spec_ratio := hok0
theorem c_spec_ratio (n : Int) (d : Int) (hd : d ≠ 0) (h2 : -20000000 ≤ d ∧ d ≤ 20000000) (hn : -20000000000 ≤ n ∧ n ≤ 20000000000) : ICall Try.prog 213 [.num .i64 n, .num .i64 d] (encP (ratQ n d)) := by
  refine icall_of_hcall (v := encP (ratQ n d)) (hp' := []) id ?_ (by simp [SLe0, convTm, convHp, conv, convL, conv0, lkT, clean, encP]) (by simp [idsV, idsL, encP])
  refine hcall_V (G := g_spec_ratio) (H := []) [] tabOK mixed gok_spec_ratio hok_spec_ratio Try.func213 rfl Try.ntmps213 Try.results213 rfl (by kernel_rfl) fun F hN hlen => ?_
  have key : ∀ n d : Int, 0 < d → d ≤ 20000000 → (-20000000000 ≤ n ∧ n ≤ 20000000000) → (0 ≤ absI n ∧ absI n ≤ 9223372036854775807) := by
    intro n d h1 h2 h3; unfold absI; split <;> omega
  cases hs : decide (d < 0) with
  | true =>
    have hd0 : d < 0 := of_decide_eq_true hs
    obtain ⟨q1, q2, q3, q4⟩ := red_wr (n := -n) (d := -d) (by omega) (by omega) (by omega)
    have ab := red_abs (n := -n) (d := -d) (by omega)
    have a1 := key (-n) (-d) (by omega) (by omega) (by omega)
    have z1 : -9223372036854775807 ≤ -n ∧ -n ≤ 9223372036854775807 := by omega
    have z2 : 0 ≤ -d ∧ -d ≤ 9223372036854775807 := by omega
    have hv : ratQ n d = redR (-n) (-d) := by rw [ratQ, hs]; rfl
    have w1 : IntKind.i64.wrap (-n) = -n := wr (by omega) (by omega)
    have w2 : IntKind.i64.wrap (-d) = -d := wr (by omega) (by omega)
    have hg0 : (Int.gcd (-n) (-d) : Int) ≠ 0 := by omega
    simp only [V_seq, V_ret, V_region, V_draw, V_cond, brW_true, drawW, pairsOf, W_nil, W_cons, WD_nil, WD_cons, effOp2, effOp3, KN_seq, KXr_nil, QE, asB, effOp, effPure, effNew, effAlloc, effStore, effCall, giveUp, hasAll, skipE, pureV, storeV, binV, partV, loadV, over, solid, buildL, IV.cells, ofC, strip, lkT, lkH, ISt.app, opI, gO, gB, allB, gval, wrapG, dstOK, setD, mentTm, mentHp, IV.ment, oneI, lendV, lendP, lent, lentP, idsV, idsL, lkHS, flat, clean, callArgs, callFn, allLent, enumT, conv, conv0, convL, Op.operands, reduceIte, reduceCtorEq, cond_true, Bool.or_false, Bool.and_true, Bool.not_true, Nat.reduceAdd, Nat.reduceLT, Nat.reduceLeDiff, Nat.reduceEqDiff, Nat.zero_add, ne_eq, not_false_eq_true, true_and, and_false, and_self, implies_true, List.map_cons, List.map_nil, List.nil_append, List.cons_append, List.append_nil, List.all_cons, List.all_nil, List.getD_cons_zero, List.getD_cons_succ, List.length_cons, List.length_nil, List.take_succ_cons, List.take_zero, List.take_nil, List.drop_succ_cons, List.drop_zero, List.drop_nil, ex_clo, or_self, tab58, hN, encP, FinH, resA, resV, SLe, SLe0, convTm, convHp, lk_spec_ratio_spec_abs, lk_spec_ratio_spec_gcd, sp_spec_abs, sp_spec_gcd, hs, w1, w2, z1, z2, a1, ab, q3, q4, hv, hg0]
    exact ⟨id, List.nodup_nil, fun _ _ _ => rfl⟩
  | false =>
    have hd0 : 0 < d := by have := of_decide_eq_false hs; omega
    obtain ⟨q1, q2, q3, q4⟩ := red_wr hd0 h2.2 hn
    have ab := red_abs (n := n) hd0
    have a1 := key n d hd0 h2.2 hn
    have z1 : -9223372036854775807 ≤ n ∧ n ≤ 9223372036854775807 := by omega
    have z2 : 0 ≤ d ∧ d ≤ 9223372036854775807 := by omega
    have hv := rat_pos (n := n) hd0
    have hg0 : (Int.gcd n d : Int) ≠ 0 := by omega
    simp only [V_seq, V_skip, V_ret, V_region, V_draw, V_cond, brW_false, drawW, pairsOf, W_nil, W_cons, WD_nil, WD_cons, effOp2, effOp3, KN_seq, KXr_nil, QE, asB, effOp, effPure, effNew, effAlloc, effStore, effCall, giveUp, hasAll, skipE, pureV, storeV, binV, partV, loadV, over, solid, buildL, IV.cells, ofC, strip, lkT, lkH, ISt.app, opI, gO, gB, allB, gval, wrapG, dstOK, setD, mentTm, mentHp, IV.ment, oneI, lendV, lendP, lent, lentP, idsV, idsL, lkHS, flat, clean, callArgs, callFn, allLent, enumT, conv, conv0, convL, Op.operands, reduceIte, reduceCtorEq, cond_true, Bool.or_false, Bool.and_true, Bool.not_true, Nat.reduceAdd, Nat.reduceLT, Nat.reduceLeDiff, Nat.reduceEqDiff, Nat.zero_add, ne_eq, not_false_eq_true, true_and, and_false, and_self, implies_true, List.map_cons, List.map_nil, List.nil_append, List.cons_append, List.append_nil, List.all_cons, List.all_nil, List.getD_cons_zero, List.getD_cons_succ, List.length_cons, List.length_nil, List.take_succ_cons, List.take_zero, List.take_nil, List.drop_succ_cons, List.drop_zero, List.drop_nil, ex_clo, or_self, tab58, hN, encP, FinH, resA, resV, SLe, SLe0, convTm, convHp, lk_spec_ratio_spec_abs, lk_spec_ratio_spec_gcd, sp_spec_abs, sp_spec_gcd, hs, z1, z2, a1, ab, q3, q4, hv, hg0]
    exact ⟨id, List.nodup_nil, fun _ _ _ => rfl⟩
def sp_spec_ratio : PSpec := ⟨fun xs => match xs with | [.num .i64 n, .num .i64 d] => ((fun (n : Int) (d : Int) => d ≠ 0) n d) ∧ ((fun (n : Int) (d : Int) => -20000000 ≤ d ∧ d ≤ 20000000) n d) ∧ ((fun (n : Int) (d : Int) => -20000000000 ≤ n ∧ n ≤ 20000000000) n d) | _ => False, fun xs => match xs with | [.num _ n, .num _ d] => (fun (n : Int) (d : Int) => encP (ratQ n d)) n d | _ => .junk, false⟩
theorem gk_spec_ratio : ∀ args, sp_spec_ratio.pre args → ICall Try.prog 213 args (sp_spec_ratio.val args) := by
  intro args h
  unfold sp_spec_ratio at h ⊢; simp only at h ⊢; split at h
  · obtain ⟨h0, h1, h2⟩ := h
    simp only [toPs_enc] at *
    exact c_spec_ratio _ _ h0 h1 h2
  · exact h.elim
theorem en_spec_ratio : Enters Try.prog 213 := enters_of Try.func213 (by kernel_rfl) rfl


theorem sgn_cmp (a b : Int) : sgnI (a - b) = cmpI a b := by
  unfold sgnI cmpI
  by_cases h : a < b
  · rw [if_pos (by omega), if_pos h]
  · rw [if_neg (by omega), if_neg h]
    by_cases k : b < a
    · rw [if_pos (by omega), if_pos k]
    · rw [if_neg (by omega), if_neg k]
theorem cmpR_neg (r s : Pt) : decide (cmpRt r s < 0) = ltR r s := by
  rw [Bool.eq_iff_iff, decide_eq_true_iff]
  simp only [ltR, decide_eq_true_eq, cmpRt, cmpI]
  split
  · simp; assumption
  · split <;> simp <;> omega
theorem cmpR_pos (r s : Pt) : decide (0 < cmpRt r s) = ltR s r := by
  rw [Bool.eq_iff_iff, decide_eq_true_iff]
  simp only [ltR, decide_eq_true_eq, cmpRt, cmpI]
  split
  · simp; omega
  · split <;> simp <;> omega
theorem cmpR_zero (r s : Pt) : (cmpRt r s == 0) = decide (r.1 * s.2 = s.1 * r.2) := by
  rw [Bool.eq_iff_iff, decide_eq_true_iff]
  simp only [beq_iff_eq, cmpRt, cmpI]
  split
  · simp; omega
  · split
    · simp; omega
    · simp; omega
def g_spec_compareRats : List (Nat × PSpec) := [(198, sp_spec_sign)]
theorem gok_spec_compareRats : GOK Try.prog g_spec_compareRats := gok_cons gk_spec_sign en_spec_sign (gok0)
theorem lk_spec_compareRats_spec_sign : lkG g_spec_compareRats 198 = sp_spec_sign := rfl
def h_spec_compareRats : List (Nat × HSpec) := []
theorem hok_spec_compareRats : HOK Try.prog h_spec_compareRats := hok0
theorem c_spec_compareRats (r : Pt) (s : Pt) (hr : okR r) (hs : okR s) : ICall Try.prog 242 [encP r, encP s] (.num .i64 (cmpRt r s)) := by
  refine icall_V (G := g_spec_compareRats) (H := []) [] tabOK mixed gok_spec_compareRats hok_spec_compareRats Try.func242 rfl Try.ntmps242 Try.results242 rfl (by kernel_rfl) fun F hN hlen => ?_
  have w1 : IntKind.i64.wrap (r.1 * s.2) = r.1 * s.2 := mul_bd ⟨hr.2.2.2.1, hr.2.2.2.2⟩ ⟨hs.1, hs.2.1⟩
  have w2 : IntKind.i64.wrap (s.1 * r.2) = s.1 * r.2 := mul_bd ⟨hs.2.2.2.1, hs.2.2.2.2⟩ ⟨hr.1, hr.2.1⟩
  have b1 := mulB (A := 20000000000) (B := 20000000) (x := r.1) (y := s.2) ⟨hr.2.2.2.1, hr.2.2.2.2⟩ (by have := hs.1; have := hs.2.1; omega)
  have b2 := mulB (A := 20000000000) (B := 20000000) (x := s.1) (y := r.2) ⟨hs.2.2.2.1, hs.2.2.2.2⟩ (by have := hr.1; have := hr.2.1; omega)
  have w3 : IntKind.i64.wrap (r.1 * s.2 - s.1 * r.2) = r.1 * s.2 - s.1 * r.2 := wr (by omega) (by omega)
  simp only [V_seq, V_ret, V_region, W_nil, W_cons, effOp2, KN_seq, KXr_nil, QE, effOp, effPure, effNew, effBox, effCall, giveUp, hasAll, skipE, pureV, binV, partV, loadV, faddrV, solid, IV.cells, ofC, strip, lkT, lkH, ISt.app, opI, gO, gB, allB, gval, wrapG, dstOK, setD, mentTm, mentHp, IV.ment, IV.mentL, oneI, lendV, lendP, lent, lentP, idsV, idsL, lkHS, flat, clean, callArgs, callFn, allLent, enumT, Gives, Ideal.Fin, conv, conv0, IBlk.shape, Op.operands, reduceIte, reduceCtorEq, cond_true, Bool.or_false, Bool.and_true, Bool.not_true, Nat.reduceAdd, Nat.reduceLT, Nat.reduceLeDiff, Nat.reduceEqDiff, Nat.reduceBEq, Nat.add_zero, Nat.zero_add, and_self, implies_true, List.map_cons, List.map_nil, List.nil_append, List.cons_append, List.append_nil, List.all_cons, List.all_nil, Option.map_some, List.getD_cons_zero, List.getD_cons_succ, List.length_cons, List.length_nil, List.take_succ_cons, List.take_zero, List.take_nil, List.drop_succ_cons, List.drop_zero, ex_clo, or_self, tab3, tab58, hN, encP, lk_spec_compareRats_spec_sign, sp_spec_sign, w1, w2, w3, sgn_cmp, cmpRt]
def sp_spec_compareRats : PSpec := ⟨fun xs => match xs with | [.agg [.num .i64 r1, .num .i64 r2], .agg [.num .i64 s1, .num .i64 s2]] => ((fun (r : Pt) (s : Pt) => okR r) (r1, r2) (s1, s2)) ∧ ((fun (r : Pt) (s : Pt) => okR s) (r1, r2) (s1, s2)) | _ => False, fun xs => match xs with | [.agg [.num _ r1, .num _ r2], .agg [.num _ s1, .num _ s2]] => (fun (r : Pt) (s : Pt) => .num .i64 (cmpRt r s)) (r1, r2) (s1, s2) | _ => .junk, false⟩
theorem gk_spec_compareRats : ∀ args, sp_spec_compareRats.pre args → ICall Try.prog 242 args (sp_spec_compareRats.val args) := by
  intro args h
  unfold sp_spec_compareRats at h ⊢; simp only at h ⊢; split at h
  · obtain ⟨h0, h1⟩ := h
    simp only [toPs_enc] at *
    exact c_spec_compareRats (_, _) (_, _) h0 h1
  · exact h.elim
theorem en_spec_compareRats : Enters Try.prog 242 := enters_of Try.func242 (by kernel_rfl) rfl

def g_spec_ratPointLess : List (Nat × PSpec) := [(242, sp_spec_compareRats)]
theorem gok_spec_ratPointLess : GOK Try.prog g_spec_ratPointLess := gok_cons gk_spec_compareRats en_spec_compareRats (gok0)
theorem lk_spec_ratPointLess_spec_compareRats : lkG g_spec_ratPointLess 242 = sp_spec_compareRats := rfl
def h_spec_ratPointLess : List (Nat × HSpec) := []
theorem hok_spec_ratPointLess : HOK Try.prog h_spec_ratPointLess := hok0
theorem c_spec_ratPointLess (p : Qd) (q : Qd) (hp : goodQ p) (hq : goodQ q) : ICall Try.prog 215 [encQ p, encQ q] (.bool (ltQ p q)) := by
  refine icall_V (G := g_spec_ratPointLess) (H := []) [] tabOK mixed gok_spec_ratPointLess hok_spec_ratPointLess Try.func215 rfl Try.ntmps215 Try.results215 rfl (by kernel_rfl) fun F hN hlen => ?_
  have p1 := hp.1
  have p2 := hp.2
  have q1 := hq.1
  have q2 := hq.2
  have hv : ltQ p q = (ltR p.1 q.1 || (decide (p.1.1 * q.1.2 = q.1.1 * p.1.2) && ltR p.2 q.2)) := rfl
  simp only [V_seq, V_ret, V_region, W_nil, W_cons, effOp2, KN_seq, KXr_nil, QE, effOp, effPure, effPick, effNew, effBox, effCall, giveUp, hasAll, skipE, pureV, pickV, binV, partV, loadV, faddrV, solid, IV.cells, ofC, strip, lkT, lkH, ISt.app, opI, gO, gB, allB, gval, wrapG, dstOK, setD, mentTm, mentHp, IV.ment, IV.mentL, oneI, lendV, lendP, lent, lentP, idsV, idsL, lkHS, flat, clean, callArgs, callFn, allLent, enumT, Gives, Ideal.Fin, conv, conv0, IBlk.shape, Op.operands, reduceIte, reduceCtorEq, cond_true, Bool.or_false, Bool.true_or, Bool.and_true, Bool.and_eq_true, Bool.not_true, Nat.reduceAdd, Nat.reduceLT, Nat.reduceLeDiff, Nat.reduceEqDiff, Nat.reduceBEq, Nat.add_zero, Nat.zero_add, true_and, and_true, and_false, and_self, implies_true, forall_const, List.map_cons, List.map_nil, List.nil_append, List.cons_append, List.append_nil, List.all_cons, List.all_nil, Option.map_some, Option.bind_some, List.getElem?_cons_zero, List.getElem?_cons_succ, List.getD_cons_zero, List.getD_cons_succ, List.length_cons, List.length_nil, List.take_succ_cons, List.take_zero, List.take_nil, List.drop_succ_cons, List.drop_zero, ex_clo, or_self, tab58, tab60, hN, pe, encQ, lk_spec_ratPointLess_spec_compareRats, sp_spec_compareRats, p1, p2, q1, q2, cmpR_neg, cmpR_zero, hv]
  cases ltR p.1 q.1 <;> cases decide (p.1.1 * q.1.2 = q.1.1 * p.1.2) <;> simp
def sp_spec_ratPointLess : PSpec := ⟨fun xs => match xs with | [.agg [.num .i64 p1, .num .i64 p2, .num .i64 p3, .num .i64 p4], .agg [.num .i64 q1, .num .i64 q2, .num .i64 q3, .num .i64 q4]] => ((fun (p : Qd) (q : Qd) => goodQ p) ((p1, p2), (p3, p4)) ((q1, q2), (q3, q4))) ∧ ((fun (p : Qd) (q : Qd) => goodQ q) ((p1, p2), (p3, p4)) ((q1, q2), (q3, q4))) | _ => False, fun xs => match xs with | [.agg [.num _ p1, .num _ p2, .num _ p3, .num _ p4], .agg [.num _ q1, .num _ q2, .num _ q3, .num _ q4]] => (fun (p : Qd) (q : Qd) => .bool (ltQ p q)) ((p1, p2), (p3, p4)) ((q1, q2), (q3, q4)) | _ => .junk, false⟩
theorem gk_spec_ratPointLess : ∀ args, sp_spec_ratPointLess.pre args → ICall Try.prog 215 args (sp_spec_ratPointLess.val args) := by
  intro args h
  unfold sp_spec_ratPointLess at h ⊢; simp only at h ⊢; split at h
  · obtain ⟨h0, h1⟩ := h
    simp only [toPs_enc] at *
    exact c_spec_ratPointLess ((_, _), (_, _)) ((_, _), (_, _)) h0 h1
  · exact h.elim
theorem en_spec_ratPointLess : Enters Try.prog 215 := enters_of Try.func215 (by kernel_rfl) rfl


theorem addQ_past {p : Qd} {l : List Qd} {k : Nat} (hk : k < l.length) (h : addQ l p = l.take k ++ addQ (l.drop k) p) (hl : ltQ (qAt l k) p = true) : addQ l p = l.take (k + 1) ++ addQ (l.drop (k + 1)) p := by
  rw [h, drop_eq_g (d := ((0, 0), (0, 0))) hk]
  simp only [addQ, addG, hl, if_true]
  rw [take_succ_g (d := ((0, 0), (0, 0))) hk, List.append_assoc]
  rfl
theorem addQ_stop {p : Qd} {l : List Qd} {k : Nat} (hk : k < l.length) (h : addQ l p = l.take k ++ addQ (l.drop k) p) (hl : ltQ (qAt l k) p = false) :
    addQ l p = if qAt l k == p then l else l.take k ++ p :: l.drop k := by
  rw [h, drop_eq_g (d := ((0, 0), (0, 0))) hk]
  simp only [addQ, addG, hl, Bool.false_eq_true, if_false]
  by_cases hq : qAt l k = p
  · rw [if_pos hq, if_pos (by simpa using hq), ← drop_eq_g (d := ((0, 0), (0, 0))) hk, List.take_append_drop]
  · rw [if_neg hq, if_neg (by simpa using hq)]
def g_spec_addRatPoint : List (Nat × PSpec) := [(215, sp_spec_ratPointLess)]
theorem gok_spec_addRatPoint : GOK Try.prog g_spec_addRatPoint := gok_cons gk_spec_ratPointLess en_spec_ratPointLess (gok0)
theorem lk_spec_addRatPoint_spec_ratPointLess : lkG g_spec_addRatPoint 215 = sp_spec_ratPointLess := rfl
def h_spec_addRatPoint : List (Nat × HSpec) := []
theorem hok_spec_addRatPoint : HOK Try.prog h_spec_addRatPoint := hok0
theorem c_spec_addRatPoint (l : List Qd) (p : Qd) (hg : ∀ q ∈ l, goodQ q) (hp : goodQ p) (hsz : l.length ≤ 100000) : ICall Try.prog 160 [.sl 4 (encQs l), encQ p] (.sl 4 (encQs (addQ l p))) := by
  refine icall_V (G := g_spec_addRatPoint) (H := []) [(2, [(0, 10), (1, 10), (2, 10), (3, 10), (5, 10), (6, 10), (7, 10)])] tabOK mixed gok_spec_addRatPoint hok_spec_addRatPoint Try.func160 rfl Try.ntmps160 Try.results160 rfl (by kernel_rfl) fun F hN hlen => ?_
  have el := len_encQs l
  have hl : l.length ≤ maxLen := by rw [maxLen_eq]; omega
  simp only [V_seq, V_block, V_region, W_nil, W_cons, effOp2, KN_seq, effOp, effPure, effNew, effBox, skipE, pureV, solid, IV.cells, ofC, strip, lkT, ISt.app, opI, gO, gB, allB, gval, wrapG, dstOK, setD, mentTm, mentHp, IV.ment, IV.mentL, oneI, enumT, Op.operands, reduceIte, reduceCtorEq, cond_true, Bool.or_false, Bool.and_true, Nat.reduceLT, Nat.zero_add, true_and, and_self, implies_true, List.nil_append, List.cons_append, List.append_nil, List.all_cons, List.all_nil, hN, encQ]
  refine V_loop (α := Nat) ⟨tabOK, mixed, gok_spec_addRatPoint, hok_spec_addRatPoint⟩ (by kernel_rfl) (fun i => i ≤ l.length ∧ addQ l p = l.take i ++ addQ (l.drop i) p) (fun i => ⟨[(5, .num .i64 i), (3, .ptr 3 0), (0, .sl 4 (encQs l))], [(3, some (.box 60 [.num .i64 p.1.1, .num .i64 p.1.2, .num .i64 p.2.1, .num .i64 p.2.2]))]⟩) (fun i => l.length - i) 0 id (by simp) (by simp [SLe, SLe0, convTm, convHp, convB, conv, conv0, convL, lkT, lkH, clean]) ?_
  rintro i ⟨hi, hj⟩
  have lt : (encQs (l.take i)).length = i := by simp [encQs]; omega
  have ld : (encQs (l.drop i)).length = l.length - i := by simp [encQs]
  rcases Nat.lt_or_ge i l.length with hi' | hge
  · have g1 := getD_encQs hi'
    have hw := wr_succ hi' hl
    have hd : decide ((i : Int) < (l.length : Int)) = true := by simpa using hi'
    have hgi : goodQ (qAt l i) := hg _ (by rw [qAt, List.getD, List.getElem?_eq_getElem hi']; exact List.getElem_mem hi')
    simp only [V_seq, V_draw, V_cond, drawW, WS_nil, pairsOf, W_nil, W_cons, effOp2, effOp3, WI_nil, WI_cons, KN_seq, dynOK, indB, farB, freshB, freshK, freshK1, heapy, asB, effOp, effPure, effPick, effCall, giveUp, hasAll, pureV, pickV, binV, partV, eltV, loadV, iaddrV, lenV, ofC, strip, lkT, lkH, ISt.app, opI, gO, gB, allB, gval, wrapG, dstOK, setD, mentTm, mentHp, IV.ment, lendV, lendP, lent, lentP, idsV, idsL, lkHS, flat, clean, callArgs, callFn, allLent, Op.operands, Call.operands, List.append_toArray, reduceIte, reduceCtorEq, cond_true, cond_false, Bool.or_false, Bool.and_true, Bool.and_eq_true, Bool.not_true, Bool.not_false, Nat.reduceAdd, Nat.reduceLT, Nat.reduceLeDiff, Nat.reduceEqDiff, Nat.reduceBEq, Nat.zero_add, ne_eq, not_false_eq_true, beq_self_eq_true, true_and, and_true, and_false, and_self, implies_true, forall_const, List.map_cons, List.map_nil, List.nil_append, List.cons_append, List.append_nil, Option.bind_some, List.getElem?_cons_zero, List.getElem?_cons_succ, List.getD_cons_zero, List.getD_cons_succ, List.length_cons, List.length_nil, List.take_succ_cons, List.take_zero, List.take_nil, List.drop_zero, ex_clo, or_self, Bool.true_eq_false, tab51, tab60, hN, pe, Int.toNat_natCast, lk_spec_addRatPoint_spec_ratPointLess, sp_spec_ratPointLess, el, Int.toNat_natCast, g1, hd, hgi, hp]
    repeat refine And.intro (by omega) ?_
    refine brW_some (fun h => ?_) (fun h => ?_)
    · simp only [V_skip, V_block, V_region, W_nil, W_cons, effOp2, KN_seq, KN_block, KN_back, effOp, effPure, pureV, binV, ofC, strip, lkT, ISt.app, opI, gO, gB, allB, gval, wrapG, dstOK, setD, Op.operands, reduceIte, reduceCtorEq, Nat.reduceLT, Nat.reduceEqDiff, true_and, and_self, implies_true, List.nil_append, List.cons_append, hN, hw]
      exact ⟨i + 1, id, ⟨by omega, addQ_past hi' hj h⟩, by simp only []; omega, by simp [SLe, SLe0, convTm, convHp, convB, conv, conv0, convL, lkT, lkH, clean]⟩
    · simp only [V_seq, V_exit, V_draw, V_cond, drawW, pairsOf, WD_nil, WD_cons, effOp3, KN_seq, KXe_nil, KXe_seq, KXe_block, KXe_back, QE, asB, effOp, effPure, effPick, pureV, pickV, binV, partV, eltV, loadV, iaddrV, lenV, ofC, strip, lkT, lkH, ISt.app, opI, gO, gB, allB, gval, wrapG, dstOK, setD, Ideal.Fin, eqL, numsOnly, Op.operands, Call.operands, List.append_toArray, reduceIte, reduceCtorEq, cond_true, Bool.and_true, Nat.reduceAdd, Nat.reduceLT, Nat.reduceLeDiff, Nat.reduceEqDiff, Nat.zero_add, ne_eq, not_false_eq_true, beq_self_eq_true, true_and, and_true, and_false, and_self, implies_true, forall_const, List.nil_append, List.cons_append, Option.bind_some, List.getElem?_cons_zero, List.getElem?_cons_succ, List.getD_cons_zero, List.length_cons, List.length_nil, List.take_succ_cons, List.take_nil, List.drop_zero, Bool.true_eq_false, tab51, tab60, hN, Int.toNat_natCast, el, Int.toNat_natCast, g1, hd, eqQ]
      have hst := addQ_stop hi' hj h
      repeat refine And.intro (by omega) ?_
      refine brW_some (fun h => ?_) (fun h => ?_)
      · simp only [V_seq, V_ret, V_region, W_nil, W_cons, effOp2, KN_seq, KXr_nil, KXr_seq, QE, effOp, effPure, pureV, strip, lkT, lkH, ISt.app, opI, gO, gB, allB, gval, wrapG, dstOK, setD, Gives, Ideal.Fin, conv, conv0, Op.operands, reduceIte, reduceCtorEq, Nat.reduceLT, Nat.reduceEqDiff, true_and, and_self, implies_true, List.nil_append, List.cons_append, hN]
        rw [hst, if_pos h]
      · have hfin : addQ l p = l.take i ++ p :: l.drop i := by rw [hst, h]; rfl
        simp only [V_seq, V_skip, V_ret, V_region, W_nil, W_cons, effOp2, KN_seq, KXr_nil, QE, effOp, effPure, effNew, effBuildSlice, effFrz, frz, tmpsOf, effAppend, effZeros, skipE, pureV, srcV, refId, partV, loadV, sliceV, strip, lkT, lkH, ISt.app, opI, gO, gB, allB, gval, wrapG, dstOK, setD, mentTm, mentHp, IV.ment, IV.mentL, partsL, eltsI, eltI, oneI, noId', Gives, Ideal.Fin, conv, conv0, Op.operands, List.append_toArray, Array.append_empty, Option.toArray_none, Option.toArray_some, reduceIte, reduceCtorEq, cond_true, Bool.or_false, Bool.and_true, Nat.reduceAdd, Nat.reduceMul, Nat.reduceLT, Nat.reduceLeDiff, Nat.reduceEqDiff, Nat.reduceBEq, Nat.zero_add, ne_eq, not_false_eq_true, true_and, and_true, and_false, and_self, implies_true, forall_const, List.nil_append, List.cons_append, List.append_nil, List.all_cons, List.all_nil, Option.some.injEq, Option.map_some, Option.map_none, List.getD_cons_zero, List.length_cons, List.length_nil, List.take_succ_cons, List.take_nil, List.drop_zero, tab51, tab60, hN, Int.toNat_natCast, el, Int.toNat_natCast, encQs_take, encQs_drop, lt, ld]
        refine ⟨⟨by omega, by omega⟩, by omega, ⟨by omega, by omega⟩, ⟨by omega, by omega⟩, ⟨by simp [encQs]; omega, by omega⟩, _, _, rfl, by simp [encQs]; omega, ?_, by simp⟩
        rw [encQs_one p, encQs_app, encQs_take, encQs_app, List.take_take, Nat.min_self, List.take_of_length_le (l := l.take i ++ [p]) (by simp; omega), List.take_of_length_le (by simp [encQs]; omega), hfin]
        simp
  · have hie : i = l.length := by omega
    have g1 : (encQs l).getD i .junk = .junk := by simp [List.getD, encQs, hge]
    have hd : decide ((i : Int) < (l.length : Int)) = false := by simp; omega
    have hfin : addQ l p = l.take i ++ p :: l.drop i := by rw [hj]; simp [hie, addQ, addG]
    simp only [V_seq, V_skip, V_ret, V_exit, V_region, V_draw, V_cond, brW_false, drawW, WS_nil, pairsOf, W_nil, W_cons, WD_nil, WD_cons, effOp2, effOp3, WI_nil, WI_cons, KN_seq, KXr_nil, KXe_nil, KXe_seq, KXe_block, KXe_back, QE, dynOK, indB, farB, freshB, freshK, freshK1, heapy, asB, effOp, effPure, effPick, effNew, effBuildSlice, effFrz, frz, tmpsOf, effAppend, effZeros, effCall, giveUp, hasAll, skipE, pureV, pickV, srcV, refId, binV, partV, eltV, loadV, iaddrV, sliceV, lenV, ofC, strip, lkT, lkH, ISt.app, opI, gO, gB, allB, gval, wrapG, dstOK, setD, mentTm, mentHp, IV.ment, IV.mentL, partsL, eltsI, eltI, oneI, noId', lendV, lendP, lent, lentP, idsV, idsL, lkHS, flat, clean, callArgs, callFn, allLent, Gives, Ideal.Fin, conv, conv0, Op.operands, Call.operands, List.append_toArray, Array.append_empty, Option.toArray_none, Option.toArray_some, reduceIte, reduceCtorEq, cond_true, cond_false, Bool.or_false, Bool.or_true, Bool.and_true, Bool.and_eq_true, Bool.not_false, Nat.reduceAdd, Nat.reduceMul, Nat.reduceLT, Nat.reduceLeDiff, Nat.reduceEqDiff, Nat.reduceBEq, Nat.zero_add, ne_eq, not_false_eq_true, true_and, and_true, false_and, and_false, and_self, false_implies, implies_true, forall_const, List.map_cons, List.map_nil, List.nil_append, List.cons_append, List.append_nil, List.all_cons, List.all_nil, Option.some.injEq, Option.map_some, Option.map_none, Option.bind_some, List.getElem?_cons_zero, List.getElem?_cons_succ, List.getD_cons_zero, List.getD_cons_succ, List.length_cons, List.length_nil, List.take_succ_cons, List.take_zero, List.take_nil, List.drop_zero, ex_clo, bft, or_true, Bool.false_eq_true, tab51, tab60, hN, Int.toNat_natCast, lk_spec_addRatPoint_spec_ratPointLess, sp_spec_ratPointLess, el, Int.toNat_natCast, g1, hd, encQs_take, encQs_drop, lt, ld]
    refine ⟨⟨by omega, by omega⟩, by omega, ⟨by omega, by omega⟩, ⟨by omega, by omega⟩, ⟨by simp [encQs]; omega, by omega⟩, _, _, rfl, by simp [encQs]; omega, ?_, by simp⟩
    rw [encQs_one p, encQs_app, encQs_take, encQs_app, List.take_take, Nat.min_self, List.take_of_length_le (l := l.take i ++ [p]) (by simp; omega), List.take_of_length_le (by simp [encQs]; omega), hfin]
    simp
def sp_spec_addRatPoint : PSpec := ⟨fun xs => match xs with | [.sl 4 les, .agg [.num .i64 p1, .num .i64 p2, .num .i64 p3, .num .i64 p4]] => isQs les ∧ ((fun (l : List Qd) (p : Qd) => ∀ q ∈ l, goodQ q) (toQs les) ((p1, p2), (p3, p4))) ∧ ((fun (l : List Qd) (p : Qd) => goodQ p) (toQs les) ((p1, p2), (p3, p4))) ∧ ((fun (l : List Qd) (p : Qd) => l.length ≤ 100000) (toQs les) ((p1, p2), (p3, p4))) | _ => False, fun xs => match xs with | [.sl _ les, .agg [.num _ p1, .num _ p2, .num _ p3, .num _ p4]] => (fun (l : List Qd) (p : Qd) => .sl 4 (encQs (addQ l p))) (toQs les) ((p1, p2), (p3, p4)) | _ => .junk, false⟩
theorem gk_spec_addRatPoint : ∀ args, sp_spec_addRatPoint.pre args → ICall Try.prog 160 args (sp_spec_addRatPoint.val args) := by
  intro args h
  unfold sp_spec_addRatPoint at h ⊢; simp only at h ⊢; split at h
  · obtain ⟨h0, h1, h2, h3⟩ := h
    obtain ⟨l0, rfl⟩ := isQ_ex h0
    simp only [toQs_enc] at *
    exact c_spec_addRatPoint _ ((_, _), (_, _)) h1 h2 h3
  · exact h.elim
theorem en_spec_addRatPoint : Enters Try.prog 160 := enters_of Try.func160 (by kernel_rfl) rfl


theorem addQ_len (x : Qd) : ∀ a : List Qd, (addQ a x).length ≤ a.length + 1
  | [] => by simp [addQ, addG]
  | y :: a => by
    have ih := addQ_len x a
    unfold addQ at ih ⊢
    rw [addG]
    split
    · simp only [List.length_cons]; omega
    · split <;> simp
theorem fold_len : ∀ (m a : List Qd), (m.foldl addQ a).length ≤ a.length + m.length
  | [], a => by simp
  | x :: m, a => by
    have h1 := fold_len m (addQ a x)
    have h2 := addQ_len x a
    simp only [List.foldl_cons, List.length_cons]; omega
theorem sortQ_len {l : List Qd} (hg : ∀ q ∈ l, goodQ q) : (sortQ l).length = l.length := by
  have h1 : (subQ l).length = l.length := by
    have := congrArg List.length (off_sub hg); rw [off_len] at this; exact this
  rw [sortQ, off_len, List.length_mergeSort, h1]
end Go.Proofs.Ytemppebemahkoaa
