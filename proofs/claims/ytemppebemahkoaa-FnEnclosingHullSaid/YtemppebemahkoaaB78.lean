/- The centers of enclosing circles; the law on hulls and enclosing circles: the walk. -/
import Derived.Test.YtemppebemahkoaaB77
import Derived.Test.YtemppebemahkoaaB11
set_option linter.unusedVariables false
set_option linter.unusedSimpArgs false
set_option maxHeartbeats 1600000
set_option maxRecDepth 100000
namespace Go.Proofs.Ytemppebemahkoaa
open Go Go.Ideal Go.Pl Go.Sort

/-- A fraction in lowest terms. -/
def ratZ (n d : Int) : Pt := if d < 0 then redR (-n) (-d) else redR n d
theorem tdiv_bd {x g B : Int} (hb : 0 ≤ B) (h : -B ≤ x ∧ x ≤ B) : -B ≤ x.tdiv g ∧ x.tdiv g ≤ B := by
  have : (x.tdiv g).natAbs ≤ x.natAbs := by rw [Int.natAbs_tdiv]; exact Nat.div_le_self _ _
  omega
theorem red_wrZ {n d : Int} (hd : 0 < d) (h2 : d ≤ 1000000000000) (hn : -1000000000000 ≤ n ∧ n ≤ 1000000000000) : 0 < (Int.gcd n d : Int) ∧ (Int.gcd n d : Int) ≤ 1000000000000 ∧ IntKind.i64.wrap (n.tdiv (Int.gcd n d)) = (redR n d).1 ∧ IntKind.i64.wrap (d.tdiv (Int.gcd n d)) = (redR n d).2 := by
  obtain ⟨hg, _⟩ := red_gcd (n := n) (d := d) (by omega)
  have e1 : n.tdiv (Int.gcd n d) = (redR n d).1 := rfl
  have e2 : d.tdiv (Int.gcd n d) = (redR n d).2 := rfl
  have b1 := tdiv_bd (g := Int.gcd n d) (show (0 : Int) ≤ 1000000000000 by omega) hn
  have b2 := tdiv_bd (x := d) (g := Int.gcd n d) (show (0 : Int) ≤ 1000000000000 by omega) ⟨by omega, h2⟩
  have h8 : (Int.gcd n d : Int) ≤ 1000000000000 := by
    have : Int.gcd n d ≤ d.natAbs := Nat.gcd_le_right _ (by omega)
    omega
  exact ⟨hg, h8, by rw [← e1]; exact wr (by omega) (by omega), by rw [← e2]; exact wr (by omega) (by omega)⟩
def g_impl_reduced_z : List (Nat × PSpec) := [(182, sp_impl_divisor)]
theorem gok_impl_reduced_z : GOK Try.prog g_impl_reduced_z := gok_cons gk_impl_divisor en_impl_divisor (gok0)
theorem lk_impl_reduced_z_impl_divisor : lkG g_impl_reduced_z 182 = sp_impl_divisor := rfl
def h_impl_reduced_z : List (Nat × HSpec) := []
theorem hok_impl_reduced_z : HOK Try.prog h_impl_reduced_z := hok0
theorem c_impl_reduced_z (n : Int) (d : Int) (hd : d ≠ 0) (h2 : -1000000000000 ≤ d ∧ d ≤ 1000000000000) (hn : -1000000000000 ≤ n ∧ n ≤ 1000000000000) : ICall Try.prog 110 [.num .i64 n, .num .i64 d] (encP (ratZ n d)) := by
  refine icall_of_hcall (v := encP (ratZ n d)) (hp' := []) id ?_ (by simp [SLe0, convTm, convHp, conv, convL, conv0, lkT, clean, encP]) (by simp [idsV, idsL, encP])
  refine hcall_V (G := g_impl_reduced_z) (H := []) [] tabOK mixed gok_impl_reduced_z hok_impl_reduced_z Try.func110 rfl Try.ntmps110 Try.results110 rfl (by kernel_rfl) fun F hN hlen => ?_
  have z1 : -9223372036854775807 ≤ n ∧ n ≤ 9223372036854775807 := by omega
  have z2 : -9223372036854775807 ≤ d ∧ d ≤ 9223372036854775807 := by omega
  cases hs : decide (d < 0) with
  | false =>
    have hd0 : 0 < d := by have := of_decide_eq_false hs; omega
    obtain ⟨q1, q2, q3, q4⟩ := red_wrZ hd0 h2.2 hn
    have hv : ratZ n d = redR n d := if_neg (by omega)
    have hg0 : (Int.gcd n d : Int) ≠ 0 := by omega
    simp only [V_seq, V_skip, V_ret, V_region, V_draw, V_cond, brW_false, drawW, pairsOf, W_nil, W_cons, WD_nil, WD_cons, effOp2, effOp3, KN_seq, KXr_nil, QE, asB, effOp, effPure, effNew, effAlloc, effStore, effCall, giveUp, hasAll, skipE, pureV, storeV, binV, partV, loadV, over, solid, buildL, IV.cells, ofC, strip, lkT, lkH, ISt.app, opI, gO, gB, allB, gval, wrapG, dstOK, setD, mentTm, mentHp, IV.ment, oneI, lendV, lendP, lent, lentP, idsV, idsL, lkHS, flat, clean, callArgs, callFn, allLent, enumT, conv, conv0, convL, Op.operands, reduceIte, reduceCtorEq, cond_true, Bool.or_false, Bool.and_true, Bool.not_true, Nat.reduceAdd, Nat.reduceLT, Nat.reduceLeDiff, Nat.reduceEqDiff, Nat.zero_add, ne_eq, not_false_eq_true, true_and, and_false, and_self, implies_true, List.map_cons, List.map_nil, List.nil_append, List.cons_append, List.append_nil, List.all_cons, List.all_nil, List.getD_cons_zero, List.getD_cons_succ, List.length_cons, List.length_nil, List.take_succ_cons, List.take_zero, List.take_nil, List.drop_succ_cons, List.drop_zero, List.drop_nil, ex_clo, or_self, tab58, hN, encP, FinH, resA, resV, SLe, SLe0, convTm, convHp, lk_impl_reduced_z_impl_divisor, sp_impl_divisor, z1, z2, hs, q3, q4, hv, hg0]
    exact ⟨id, List.nodup_nil, fun _ _ _ => rfl⟩
  | true =>
    have hd0 : d < 0 := of_decide_eq_true hs
    obtain ⟨q1, q2, q3, q4⟩ := red_wrZ (n := -n) (d := -d) (by omega) (by omega) (by omega)
    have eg : (Int.gcd (-n) (-d) : Int) = Int.gcd n d := by rw [Int.neg_gcd, Int.gcd_neg]
    rw [eg] at q1 q2 q3 q4
    have hv : ratZ n d = redR (-n) (-d) := if_pos hd0
    have w1 : IntKind.i64.wrap (-(Int.gcd n d : Int)) = -(Int.gcd n d : Int) := wr (by omega) (by omega)
    have t1 : n.tdiv (-(Int.gcd n d : Int)) = (-n).tdiv (Int.gcd n d) := by rw [Int.tdiv_neg, Int.neg_tdiv]
    have t2 : d.tdiv (-(Int.gcd n d : Int)) = (-d).tdiv (Int.gcd n d) := by rw [Int.tdiv_neg, Int.neg_tdiv]
    have hg0 : -(Int.gcd n d : Int) ≠ 0 := by omega
    simp only [V_seq, V_ret, V_region, V_draw, V_cond, brW_true, drawW, pairsOf, W_nil, W_cons, WD_nil, WD_cons, effOp2, effOp3, KN_seq, KXr_nil, QE, asB, effOp, effPure, effNew, effAlloc, effStore, effCall, giveUp, hasAll, skipE, pureV, storeV, binV, partV, loadV, over, solid, buildL, IV.cells, ofC, strip, lkT, lkH, ISt.app, opI, gO, gB, allB, gval, wrapG, dstOK, setD, mentTm, mentHp, IV.ment, oneI, lendV, lendP, lent, lentP, idsV, idsL, lkHS, flat, clean, callArgs, callFn, allLent, enumT, conv, conv0, convL, Op.operands, reduceIte, reduceCtorEq, cond_true, Bool.or_false, Bool.and_true, Bool.not_true, Nat.reduceAdd, Nat.reduceLT, Nat.reduceLeDiff, Nat.reduceEqDiff, Nat.zero_add, ne_eq, not_false_eq_true, true_and, and_false, and_self, implies_true, List.map_cons, List.map_nil, List.nil_append, List.cons_append, List.append_nil, List.all_cons, List.all_nil, List.getD_cons_zero, List.getD_cons_succ, List.length_cons, List.length_nil, List.take_succ_cons, List.take_zero, List.take_nil, List.drop_succ_cons, List.drop_zero, List.drop_nil, ex_clo, or_self, tab58, hN, encP, FinH, resA, resV, SLe, SLe0, convTm, convHp, lk_impl_reduced_z_impl_divisor, sp_impl_divisor, z1, z2, hs, w1, t1, t2, q3, q4, hv, hg0]
    exact ⟨id, List.nodup_nil, fun _ _ _ => rfl⟩
def sp_impl_reduced_z : PSpec := ⟨fun xs => match xs with | [.num .i64 n, .num .i64 d] => ((fun (n : Int) (d : Int) => d ≠ 0) n d) ∧ ((fun (n : Int) (d : Int) => -1000000000000 ≤ d ∧ d ≤ 1000000000000) n d) ∧ ((fun (n : Int) (d : Int) => -1000000000000 ≤ n ∧ n ≤ 1000000000000) n d) | _ => False, fun xs => match xs with | [.num _ n, .num _ d] => (fun (n : Int) (d : Int) => encP (ratZ n d)) n d | _ => .junk, false⟩
theorem gk_impl_reduced_z : ∀ args, sp_impl_reduced_z.pre args → ICall Try.prog 110 args (sp_impl_reduced_z.val args) := by
  intro args h
  unfold sp_impl_reduced_z at h ⊢; simp only at h ⊢; split at h
  · obtain ⟨h0, h1, h2⟩ := h
    simp only [toPs_enc] at *
    exact c_impl_reduced_z _ _ h0 h1 h2
  · exact h.elim
theorem en_impl_reduced_z : Enters Try.prog 110 := enters_of Try.func110 (by kernel_rfl) rfl

def g_impl_Point_whole : List (Nat × PSpec) := []
theorem gok_impl_Point_whole : GOK Try.prog g_impl_Point_whole := gok0
def h_impl_Point_whole : List (Nat × HSpec) := []
theorem hok_impl_Point_whole : HOK Try.prog h_impl_Point_whole := hok0
theorem c_impl_Point_whole (p : Pt)  : ICall Try.prog 108 [encP p] (encQ ((p.1, 1), (p.2, 1))) := by
  refine icall_of_hcall (v := encQ ((p.1, 1), (p.2, 1))) (hp' := []) id ?_ (by simp [SLe0, convTm, convHp, conv, convL, conv0, lkT, clean, encQ]) (by simp [idsV, idsL, encQ])
  refine hcall_V (G := g_impl_Point_whole) (H := []) [] tabOK mixed gok_impl_Point_whole hok_impl_Point_whole Try.func108 rfl Try.ntmps108 Try.results108 rfl (by kernel_rfl) fun F hN hlen => ?_
  simp only [V_seq, V_ret, V_region, W_nil, W_cons, effOp2, KN_seq, KXr_nil, QE, effOp, effPure, effNew, effAlloc, effBox, effStore, skipE, pureV, storeV, partV, loadV, faddrV, over, solid, buildL, IV.cells, ofC, strip, lkT, lkH, ISt.app, opI, gO, gB, allB, gval, wrapG, dstOK, setD, mentTm, mentHp, IV.ment, IV.mentL, oneI, clean, enumT, conv, conv0, convL, IBlk.shape, Op.operands, reduceIte, reduceCtorEq, cond_true, Bool.or_false, Bool.and_true, Nat.reduceAdd, Nat.reduceLT, Nat.reduceLeDiff, Nat.reduceEqDiff, Nat.reduceBEq, Nat.add_zero, Nat.zero_add, ne_eq, not_false_eq_true, true_and, and_false, and_self, implies_true, List.map_cons, List.map_nil, List.nil_append, List.cons_append, List.append_nil, List.all_cons, List.all_nil, Option.map_some, List.getD_cons_zero, List.getD_cons_succ, List.length_cons, List.length_nil, List.take_succ_cons, List.take_zero, List.take_nil, List.drop_succ_cons, List.drop_zero, List.drop_nil, tab3, tab30, tab58, tab60, hN, encP, encQ, FinH, resA, resV, SLe, SLe0, convTm, convHp]
  exact ⟨id, by simp⟩
def sp_impl_Point_whole : PSpec := ⟨fun xs => match xs with | [.agg [.num .i64 p1, .num .i64 p2]] => True | _ => False, fun xs => match xs with | [.agg [.num _ p1, .num _ p2]] => (fun (p : Pt) => encQ ((p.1, 1), (p.2, 1))) (p1, p2) | _ => .junk, false⟩
theorem gk_impl_Point_whole : ∀ args, sp_impl_Point_whole.pre args → ICall Try.prog 108 args (sp_impl_Point_whole.val args) := by
  intro args h
  unfold sp_impl_Point_whole at h ⊢; simp only at h ⊢; split at h
  · exact c_impl_Point_whole (_, _)
  · exact h.elim
theorem en_impl_Point_whole : Enters Try.prog 108 := enters_of Try.func108 (by kernel_rfl) rfl

def g_impl_Point_plus : List (Nat × PSpec) := []
theorem gok_impl_Point_plus : GOK Try.prog g_impl_Point_plus := gok0
def h_impl_Point_plus : List (Nat × HSpec) := []
theorem hok_impl_Point_plus : HOK Try.prog h_impl_Point_plus := hok0
theorem c_impl_Point_plus (p : Pt) (q : Pt) (hp : Sm p) (hq : Sm q) : ICall Try.prog 109 [encP p, encP q] (encP (p.1 + q.1, p.2 + q.2)) := by
  refine icall_of_hcall (v := encP (p.1 + q.1, p.2 + q.2)) (hp' := []) id ?_ (by simp [SLe0, convTm, convHp, conv, convL, conv0, lkT, clean, encP]) (by simp [idsV, idsL, encP])
  refine hcall_V (G := g_impl_Point_plus) (H := []) [] tabOK mixed gok_impl_Point_plus hok_impl_Point_plus Try.func109 rfl Try.ntmps109 Try.results109 rfl (by kernel_rfl) fun F hN hlen => ?_
  have h1 := hp
  have h2 := hq
  simp only [Sm, sm1] at h1 h2
  have w1 : IntKind.i64.wrap (p.1 + q.1) = p.1 + q.1 := wr (by omega) (by omega)
  have w2 : IntKind.i64.wrap (p.2 + q.2) = p.2 + q.2 := wr (by omega) (by omega)
  simp only [V_seq, V_ret, V_region, W_nil, W_cons, effOp2, KN_seq, KXr_nil, QE, effOp, effPure, effNew, effAlloc, effBox, effStore, skipE, pureV, storeV, binV, partV, loadV, faddrV, over, solid, buildL, IV.cells, ofC, strip, lkT, lkH, ISt.app, opI, gO, gB, allB, gval, wrapG, dstOK, setD, mentTm, mentHp, IV.ment, IV.mentL, oneI, clean, enumT, conv, conv0, convL, IBlk.shape, Op.operands, reduceIte, reduceCtorEq, cond_true, Bool.or_false, Bool.and_true, Nat.reduceAdd, Nat.reduceLT, Nat.reduceLeDiff, Nat.reduceEqDiff, Nat.reduceBEq, Nat.add_zero, Nat.zero_add, ne_eq, not_false_eq_true, true_and, and_false, and_self, implies_true, List.map_cons, List.map_nil, List.nil_append, List.cons_append, List.append_nil, List.all_cons, List.all_nil, Option.map_some, List.getD_cons_zero, List.getD_cons_succ, List.length_cons, List.length_nil, List.take_succ_cons, List.take_zero, List.take_nil, List.drop_succ_cons, List.drop_zero, List.drop_nil, tab3, tab30, hN, encP, FinH, resA, resV, SLe, SLe0, convTm, convHp, w1, w2]
  exact ⟨id, by simp⟩
def sp_impl_Point_plus : PSpec := ⟨fun xs => match xs with | [.agg [.num .i64 p1, .num .i64 p2], .agg [.num .i64 q1, .num .i64 q2]] => ((fun (p : Pt) (q : Pt) => Sm p) (p1, p2) (q1, q2)) ∧ ((fun (p : Pt) (q : Pt) => Sm q) (p1, p2) (q1, q2)) | _ => False, fun xs => match xs with | [.agg [.num _ p1, .num _ p2], .agg [.num _ q1, .num _ q2]] => (fun (p : Pt) (q : Pt) => encP (p.1 + q.1, p.2 + q.2)) (p1, p2) (q1, q2) | _ => .junk, false⟩
theorem gk_impl_Point_plus : ∀ args, sp_impl_Point_plus.pre args → ICall Try.prog 109 args (sp_impl_Point_plus.val args) := by
  intro args h
  unfold sp_impl_Point_plus at h ⊢; simp only at h ⊢; split at h
  · obtain ⟨h0, h1⟩ := h
    simp only [toPs_enc] at *
    exact c_impl_Point_plus (_, _) (_, _) h0 h1
  · exact h.elim
theorem en_impl_Point_plus : Enters Try.prog 109 := enters_of Try.func109 (by kernel_rfl) rfl

/-- The center of the circle that points determine. -/
def cenQ (S : List Pt) : Qd := match S with
  | [a] => ((a.1, 1), (a.2, 1))
  | _ => (ratZ (cenP S).1 (cenP S).2.2, ratZ (cenP S).2.1 (cenP S).2.2)
def g_impl_CircleCenter : List (Nat × PSpec) := [(103, sp_impl_indicesOk), (107, sp_impl_chosen), (106, sp_impl_determines), (108, sp_impl_Point_whole), (109, sp_impl_Point_plus), (110, sp_impl_reduced_z), (111, sp_impl_Point_minus), (112, sp_impl_Point_cross), (113, sp_impl_Point_dot)]
theorem gok_impl_CircleCenter : GOK Try.prog g_impl_CircleCenter := gok_cons gk_impl_indicesOk en_impl_indicesOk (gok_cons gk_impl_chosen en_impl_chosen (gok_cons gk_impl_determines en_impl_determines (gok_cons gk_impl_Point_whole en_impl_Point_whole (gok_cons gk_impl_Point_plus en_impl_Point_plus (gok_cons gk_impl_reduced_z en_impl_reduced_z (gok_cons gk_impl_Point_minus en_impl_Point_minus (gok_cons gk_impl_Point_cross en_impl_Point_cross (gok_cons gk_impl_Point_dot en_impl_Point_dot (gok0)))))))))
theorem lk_impl_CircleCenter_impl_indicesOk : lkG g_impl_CircleCenter 103 = sp_impl_indicesOk := rfl
theorem lk_impl_CircleCenter_impl_chosen : lkG g_impl_CircleCenter 107 = sp_impl_chosen := rfl
theorem lk_impl_CircleCenter_impl_determines : lkG g_impl_CircleCenter 106 = sp_impl_determines := rfl
theorem lk_impl_CircleCenter_impl_Point_whole : lkG g_impl_CircleCenter 108 = sp_impl_Point_whole := rfl
theorem lk_impl_CircleCenter_impl_Point_plus : lkG g_impl_CircleCenter 109 = sp_impl_Point_plus := rfl
theorem lk_impl_CircleCenter_impl_reduced_z : lkG g_impl_CircleCenter 110 = sp_impl_reduced_z := rfl
theorem lk_impl_CircleCenter_impl_Point_minus : lkG g_impl_CircleCenter 111 = sp_impl_Point_minus := rfl
theorem lk_impl_CircleCenter_impl_Point_cross : lkG g_impl_CircleCenter 112 = sp_impl_Point_cross := rfl
theorem lk_impl_CircleCenter_impl_Point_dot : lkG g_impl_CircleCenter 113 = sp_impl_Point_dot := rfl
def h_impl_CircleCenter : List (Nat × HSpec) := []
theorem hok_impl_CircleCenter : HOK Try.prog h_impl_CircleCenter := hok0
theorem c_impl_CircleCenter (l : List Pt) (w : List Int) (hk : okPs l = true) (hw : ∀ x ∈ w, 0 ≤ x ∧ x < (l.length : Int)) (ha : Asc1 w) (h1 : w.length ≤ 1000000) (hd : detB (selI l w) = true) : ICall Try.prog 45 [.sl 2 (encPs l), .sl 1 (encI w)] (.tup [encQ (cenQ (selI l w)), .bool true]) := by
  refine icall_of_hcall (v := .tup [encQ (cenQ (selI l w)), .bool true]) (hp' := []) id ?_ (by simp [SLe0, convTm, convHp, conv, convL, conv0, lkT, clean, encQ]) (by simp [idsV, idsL, encQ])
  refine hcall_V (G := g_impl_CircleCenter) (H := []) [(8, [(0, 6), (1, 6), (3, 6), (4, 6), (0, 7), (1, 7), (2, 7), (3, 7), (4, 7), (5, 7), (6, 7)]), (9, [(0, 2), (2, 3), (2, 4), (0, 5), (1, 5), (3, 5)]), (10, [(0, 6), (1, 6), (3, 6), (4, 6), (6, 7), (6, 8), (6, 9), (6, 10), (6, 11), (6, 12), (0, 13), (1, 13), (2, 13), (3, 13), (4, 13), (5, 13), (7, 13), (8, 13), (10, 13), (11, 13), (0, 14), (1, 14), (2, 14), (3, 14), (4, 14), (5, 14), (6, 14), (7, 14), (8, 14), (9, 14), (10, 14), (11, 14), (12, 14), (13, 14), (0, 15), (1, 15), (2, 15), (3, 15), (4, 15), (5, 15), (6, 15), (7, 15), (8, 15), (9, 15), (10, 15), (11, 15), (12, 15), (13, 15), (14, 15), (7, 16), (8, 16), (9, 16), (10, 16), (11, 16), (12, 16)]), (12, [(0, 4), (1, 4), (4, 6), (4, 7), (4, 8), (4, 9), (0, 10), (1, 10), (2, 10), (3, 10), (5, 10), (6, 10), (7, 10), (4, 11), (4, 12), (10, 12), (4, 13), (10, 13), (4, 14), (10, 14), (4, 15), (10, 15), (4, 16), (10, 16), (4, 17), (10, 17), (4, 18), (10, 18), (4, 19), (10, 19)]), (13, [(0, 4), (1, 4), (4, 6), (4, 7), (4, 8), (4, 9), (0, 10), (1, 10), (2, 10), (3, 10), (5, 10), (6, 10), (7, 10), (4, 11), (4, 12), (10, 12), (4, 13), (10, 13), (4, 14), (10, 14), (4, 15), (10, 15), (4, 16), (10, 16), (4, 17), (10, 17), (4, 18), (10, 18), (4, 19), (10, 19)])] tabOK mixed gok_impl_CircleCenter hok_impl_CircleCenter Try.func45 rfl Try.ntmps45 Try.results45 rfl (by kernel_rfl) fun F hN hlen => ?_
  have hl : l.length ≤ 1000000 := by have := okPs_len hk; omega
  have hv := selI_vp hk hw
  obtain ⟨S, hS⟩ : ∃ S, selI l w = S := ⟨_, rfl⟩
  rw [hS] at hv hd
  rcases S with _ | ⟨a, _ | ⟨b, _ | ⟨c, _ | ⟨d, r⟩⟩⟩⟩
  · cases hd
  · have e : encPs [a] = [.agg [.num .i64 a.1, .num .i64 a.2]] := rfl
    have hc : cenQ [a] = ((a.1, 1), (a.2, 1)) := rfl
    simp only [V_seq, V_skip, V_ret, V_block, V_region, V_cond, brW_true, brW_false, W_nil, W_cons, effOp2, KN_seq, KXr_nil, KXr_seq, KXr_block, QE, asB, effOp, effPure, effPick, effNew, effAlloc, effStore, effCall, giveUp, hasAll, skipE, pureV, pickV, storeV, binV, partV, eltV, loadV, iaddrV, lenV, over, solid, IV.cells, ofC, strip, lkT, lkH, ISt.app, opI, gO, gB, allB, gval, wrapG, dstOK, setD, mentTm, mentHp, IV.ment, oneI, lendV, lendP, lent, lentP, idsV, idsL, lkHS, flat, flatL, clean, cleanL, callArgs, callFn, allLent, enumT, conv, conv0, convL, Op.operands, Call.operands, List.append_toArray, reduceIte, reduceCtorEq, cond_true, cond_false, Bool.or_false, Bool.and_true, Bool.not_true, Nat.reduceAdd, Nat.reduceLT, Nat.reduceLeDiff, Nat.reduceEqDiff, Nat.zero_add, ne_eq, not_false_eq_true, beq_self_eq_true, true_and, and_true, and_false, and_self, implies_true, forall_const, List.map_cons, List.map_nil, List.nil_append, List.cons_append, List.append_nil, List.all_cons, List.all_nil, Option.bind_some, List.getElem?_cons_zero, List.getElem?_cons_succ, List.getD_cons_zero, List.length_cons, List.length_nil, List.take_succ_cons, List.take_zero, List.take_nil, List.drop_succ_cons, List.drop_zero, List.drop_nil, ex_clo, or_true, or_self, Bool.false_eq_true, tab23, tab30, tab60, hN, pe, encQ, isPs_enc, toPs_enc, isIs_enc, toIs_enc, isPs_nil, toPs_nil, isPs_cons, toPs_cons, FinH, resA, resL, resV, SLe, SLe0, convTm, convHp, lk_impl_CircleCenter_impl_indicesOk, lk_impl_CircleCenter_impl_chosen, lk_impl_CircleCenter_impl_determines, lk_impl_CircleCenter_impl_Point_whole, sp_impl_indicesOk, sp_impl_chosen, sp_impl_determines, sp_impl_Point_whole, hk, ha, hl, h1, hS, hd, e, hc, tn0, ci1, List.getD_cons_zero]
    exact ⟨hw, hw, hv, hw, ⟨by omega, by omega⟩, id, List.nodup_nil, fun _ _ _ => rfl⟩
  · have e : encPs [a, b] = [.agg [.num .i64 a.1, .num .i64 a.2], .agg [.num .i64 b.1, .num .i64 b.2]] := rfl
    have hc : cenQ [a, b] = (ratZ (a.1 + b.1) 2, ratZ (a.2 + b.2) 2) := rfl
    have v0 := hv a (by simp)
    have v1 := hv b (by simp)
    have s0 := v0.sm
    have s1 := v1.sm
    simp only [Vp] at v0 v1
    simp only [V_seq, V_skip, V_ret, V_block, V_region, V_draw, V_cond, brW_true, brW_false, drawW, WS_nil, pairsOf, W_nil, W_cons, effOp2, effOp3, WI_nil, WI_cons, KN_seq, KXr_nil, KXr_seq, KXr_block, QE, dynOK, indB, farB, seeB, see, isStore, freshB, freshK, freshK1, heapy, asB, effOp, effPure, effPick, effNew, effAlloc, effStore, effCall, giveUp, hasAll, skipE, pureV, pickV, storeV, binV, partV, eltV, loadV, faddrV, iaddrV, lenV, over, solid, buildL, IV.cells, ofC, strip, lkT, lkH, ISt.app, opI, gO, gB, allB, gval, wrapG, dstOK, setD, mentTm, mentHp, IV.ment, IV.mentL, oneI, lendV, lendP, lent, lentP, idsV, idsL, lkHS, flat, flatL, clean, cleanL, callArgs, callFn, allLent, enumT, conv, conv0, convL, IBlk.shape, Op.operands, Call.operands, List.append_toArray, reduceIte, reduceCtorEq, cond_true, cond_false, Bool.or_false, Bool.or_true, Bool.and_true, Bool.and_false, Bool.and_eq_true, Bool.not_true, Bool.not_false, Nat.reduceAdd, Nat.reduceLT, Nat.reduceLeDiff, Nat.reduceEqDiff, Nat.reduceBEq, Nat.add_zero, Nat.zero_add, ne_eq, not_false_eq_true, beq_self_eq_true, true_and, and_true, and_false, and_self, implies_true, forall_const, List.map_cons, List.map_nil, List.nil_append, List.cons_append, List.append_nil, List.all_cons, List.all_nil, Option.map_some, Option.bind_some, List.getElem?_cons_zero, List.getElem?_cons_succ, List.getD_cons_zero, List.getD_cons_succ, List.length_cons, List.length_nil, List.take_succ_cons, List.take_zero, List.take_nil, List.drop_succ_cons, List.drop_zero, List.drop_nil, ex_clo, or_true, or_self, Bool.false_eq_true, tab3, tab23, tab30, tab60, hN, pe, encP, encQ, isPs_enc, toPs_enc, isIs_enc, toIs_enc, isPs_nil, toPs_nil, isPs_cons, toPs_cons, FinH, resA, resL, resV, SLe, SLe0, convTm, convHp, lk_impl_CircleCenter_impl_indicesOk, lk_impl_CircleCenter_impl_chosen, lk_impl_CircleCenter_impl_determines, lk_impl_CircleCenter_impl_Point_plus, lk_impl_CircleCenter_impl_reduced_z, sp_impl_indicesOk, sp_impl_chosen, sp_impl_determines, sp_impl_Point_plus, sp_impl_reduced_z, hk, ha, hl, h1, hS, hd, s0, s1, e, hc, tn0, tn1, ci2, xe21, List.getD_cons_zero, List.getD_cons_succ]
    exact ⟨hw, hw, hv, hw, ⟨by omega, by omega⟩, ⟨by omega, by omega⟩, ⟨by decide, ⟨by omega, by omega⟩, by omega, by omega⟩, ⟨by decide, ⟨by omega, by omega⟩, by omega, by omega⟩, id, List.nodup_nil, fun _ _ _ => rfl⟩
  · have e : encPs [a, b, c] = [.agg [.num .i64 a.1, .num .i64 a.2], .agg [.num .i64 b.1, .num .i64 b.2], .agg [.num .i64 c.1, .num .i64 c.2]] := rfl
    have v0 := hv a (by simp)
    have v1 := hv b (by simp)
    have v2 := hv c (by simp)
    have m1 := vp_way v1 v0
    have m2 := vp_way v2 v0
    have n1 : Sm9 (wayP b a) := by unfold Sm9 wayP; simp only []; omega
    have n2 : Sm9 (wayP c a) := by unfold Sm9 wayP; simp only []; omega
    have hT0 : turn a b c ≠ 0 := by
      simp only [detB, Bool.and_eq_true, Bool.not_eq_true', beq_eq_false_iff_ne] at hd
      exact hd.1
    obtain ⟨ux, hux⟩ : ∃ x, (wayP b a).1 = x := ⟨_, rfl⟩
    obtain ⟨uy, huy⟩ : ∃ x, (wayP b a).2 = x := ⟨_, rfl⟩
    obtain ⟨vx, hvx⟩ : ∃ x, (wayP c a).1 = x := ⟨_, rfl⟩
    obtain ⟨vy, hvy⟩ : ∃ x, (wayP c a).2 = x := ⟨_, rfl⟩
    have bux : -2000 ≤ ux ∧ ux ≤ 2000 := by rw [← hux]; exact m1.1
    have buy : -2000 ≤ uy ∧ uy ≤ 2000 := by rw [← huy]; exact m1.2
    have bvx : -2000 ≤ vx ∧ vx ≤ 2000 := by rw [← hvx]; exact m2.1
    have bvy : -2000 ≤ vy ∧ vy ≤ 2000 := by rw [← hvy]; exact m2.2
    have k1 := mulb (A := 2000) (B := 2000) bux bux
    have k2 := mulb (A := 2000) (B := 2000) buy buy
    have k3 := mulb (A := 2000) (B := 2000) bvx bvx
    have k4 := mulb (A := 2000) (B := 2000) bvy bvy
    have k5 := mulb (A := 2000) (B := 2000) bux bvy
    have k6 := mulb (A := 2000) (B := 2000) buy bvx
    have hc : cenQ [a, b, c] = (ratZ ((wayP c a).2 * dotP (wayP b a) (wayP b a) - (wayP b a).2 * dotP (wayP c a) (wayP c a) + a.1 * (2 * crossP (wayP b a) (wayP c a))) (2 * crossP (wayP b a) (wayP c a)), ratZ ((wayP b a).1 * dotP (wayP c a) (wayP c a) - (wayP c a).1 * dotP (wayP b a) (wayP b a) + a.2 * (2 * crossP (wayP b a) (wayP c a))) (2 * crossP (wayP b a) (wayP c a))) := rfl
    obtain ⟨D1, hD1⟩ : ∃ x, dotP (wayP b a) (wayP b a) = x := ⟨_, rfl⟩
    obtain ⟨D2, hD2⟩ : ∃ x, dotP (wayP c a) (wayP c a) = x := ⟨_, rfl⟩
    obtain ⟨T, hT⟩ : ∃ x, crossP (wayP b a) (wayP c a) = x := ⟨_, rfl⟩
    have bD1 : -8000000 ≤ D1 ∧ D1 ≤ 8000000 := by rw [← hD1, dotP, hux, huy]; omega
    have bD2 : -8000000 ≤ D2 ∧ D2 ≤ 8000000 := by rw [← hD2, dotP, hvx, hvy]; omega
    have bT : -8000000 ≤ T ∧ T ≤ 8000000 := by rw [← hT, crossP, hux, huy, hvx, hvy]; omega
    have hTn : T ≠ 0 := by rw [← hT]; exact hT0
    rw [hD1, hD2, hT, hux, huy, hvx, hvy] at hc
    simp only [Vp] at v0
    have p1 := mulb (A := 2000) (B := 8000000) bvy bD1
    have p2 := mulb (A := 2000) (B := 8000000) buy bD2
    have p3 := mulb (A := 2000) (B := 8000000) bux bD2
    have p4 := mulb (A := 2000) (B := 8000000) bvx bD1
    have p5 := mulb (x := a.1) (y := 2 * T) (A := 1000) (B := 16000000) v0.1 (by omega)
    have p6 := mulb (x := a.2) (y := 2 * T) (A := 1000) (B := 16000000) v0.2 (by omega)
    have w1 : IntKind.i64.wrap (vy * D1) = vy * D1 := wr (by omega) (by omega)
    have w2 : IntKind.i64.wrap (uy * D2) = uy * D2 := wr (by omega) (by omega)
    have w3 : IntKind.i64.wrap (ux * D2) = ux * D2 := wr (by omega) (by omega)
    have w4 : IntKind.i64.wrap (vx * D1) = vx * D1 := wr (by omega) (by omega)
    have w5 : IntKind.i64.wrap (a.1 * (2 * T)) = a.1 * (2 * T) := wr (by omega) (by omega)
    have w6 : IntKind.i64.wrap (a.2 * (2 * T)) = a.2 * (2 * T) := wr (by omega) (by omega)
    have w7 : IntKind.i64.wrap (2 * T) = 2 * T := wr (by omega) (by omega)
    have w8 : IntKind.i64.wrap (vy * D1 - uy * D2) = vy * D1 - uy * D2 := wr (by omega) (by omega)
    have w9 : IntKind.i64.wrap (ux * D2 - vx * D1) = ux * D2 - vx * D1 := wr (by omega) (by omega)
    have w10 : IntKind.i64.wrap (vy * D1 - uy * D2 + a.1 * (2 * T)) = vy * D1 - uy * D2 + a.1 * (2 * T) := wr (by omega) (by omega)
    have w11 : IntKind.i64.wrap (ux * D2 - vx * D1 + a.2 * (2 * T)) = ux * D2 - vx * D1 + a.2 * (2 * T) := wr (by omega) (by omega)
    have n3 : Sm9 (ux, uy) := by unfold Sm9; simp only []; omega
    have n4 : Sm9 (vx, vy) := by unfold Sm9; simp only []; omega
    have hD1p : dotP (ux, uy) (ux, uy) = D1 := by rw [← hux, ← huy]; exact hD1
    have hD2p : dotP (vx, vy) (vx, vy) = D2 := by rw [← hvx, ← hvy]; exact hD2
    have hTp : crossP (ux, uy) (vx, vy) = T := by rw [← hux, ← huy, ← hvx, ← hvy]; exact hT
    simp only [V_seq, V_skip, V_ret, V_block, V_region, V_draw, V_cond, brW_false, drawW, WS_nil, pairsOf, W_nil, W_cons, effOp2, effOp3, WI_nil, WI_cons, KN_seq, KN_block, KXr_nil, QE, dynOK, indB, farB, seeB, see, isStore, freshB, freshK, freshK1, ownId, heapy, asB, effOp, effPure, effPick, effNew, effAlloc, effStore, effCall, giveUp, hasAll, skipE, pureV, pickV, storeV, binV, partV, eltV, loadV, faddrV, iaddrV, lenV, over, solid, buildL, IV.cells, ofC, strip, lkT, lkH, ISt.app, opI, gO, gB, allB, gval, wrapG, dstOK, setD, mentTm, mentHp, IV.ment, IV.mentL, oneI, lendV, lendP, lent, lentP, idsV, idsL, lkHS, flat, flatL, clean, cleanL, callArgs, callFn, allLent, enumT, conv, conv0, convL, IBlk.shape, Op.operands, Call.operands, List.append_toArray, reduceIte, reduceCtorEq, cond_true, cond_false, Bool.or_false, Bool.or_true, Bool.and_true, Bool.and_false, Bool.and_eq_true, Bool.not_true, Bool.not_false, Nat.reduceAdd, Nat.reduceMul, Nat.reduceLT, Nat.reduceLeDiff, Nat.reduceEqDiff, Nat.reduceBEq, Nat.add_zero, Nat.zero_add, ne_eq, not_false_eq_true, beq_self_eq_true, true_and, and_true, and_false, and_self, implies_true, forall_const, List.map_cons, List.map_nil, List.nil_append, List.cons_append, List.append_nil, List.all_cons, List.all_nil, Option.map_some, Option.bind_some, List.getElem?_cons_zero, List.getElem?_cons_succ, List.getD_cons_zero, List.getD_cons_succ, List.length_cons, List.length_nil, List.take_succ_cons, List.take_zero, List.take_nil, List.drop_succ_cons, List.drop_zero, List.drop_nil, ex_clo, or_true, or_self, Bool.false_eq_true, tab3, tab23, tab30, tab60, hN, pe, encP, encQ, isPs_enc, toPs_enc, isIs_enc, toIs_enc, isPs_nil, toPs_nil, isPs_cons, toPs_cons, FinH, resA, resL, resV, SLe, SLe0, convTm, convHp, lk_impl_CircleCenter_impl_indicesOk, lk_impl_CircleCenter_impl_chosen, lk_impl_CircleCenter_impl_determines, lk_impl_CircleCenter_impl_reduced_z, lk_impl_CircleCenter_impl_Point_minus, lk_impl_CircleCenter_impl_Point_cross, lk_impl_CircleCenter_impl_Point_dot, sp_impl_indicesOk, sp_impl_chosen, sp_impl_determines, sp_impl_reduced_z, sp_impl_Point_minus, sp_impl_Point_cross, sp_impl_Point_dot, hk, ha, hl, h1, hS, hd, n3, n4, hD1p, hD2p, hTp, hux, huy, hvx, hvy, w1, w2, w3, w4, w5, w6, w7, w8, w9, w10, w11, e, hc, tn0, tn1, tn2, ci3, xe31, xe32, List.getD_cons_zero, List.getD_cons_succ]
    refine ⟨hw, hw, hv, hw, ?_⟩
    and_intros <;> first | omega | (simp only []; omega) | exact ⟨id, List.nodup_nil, fun _ _ _ => rfl⟩
  · cases hd
def sp_impl_CircleCenter : PSpec := ⟨fun xs => match xs with | [.sl 2 les, .sl 1 wes] => isPs les ∧ isIs wes ∧ ((fun (l : List Pt) (w : List Int) => okPs l = true) (toPs les) (toIs wes)) ∧ ((fun (l : List Pt) (w : List Int) => ∀ x ∈ w, 0 ≤ x ∧ x < (l.length : Int)) (toPs les) (toIs wes)) ∧ ((fun (l : List Pt) (w : List Int) => Asc1 w) (toPs les) (toIs wes)) ∧ ((fun (l : List Pt) (w : List Int) => w.length ≤ 1000000) (toPs les) (toIs wes)) ∧ ((fun (l : List Pt) (w : List Int) => detB (selI l w) = true) (toPs les) (toIs wes)) | _ => False, fun xs => match xs with | [.sl _ les, .sl _ wes] => (fun (l : List Pt) (w : List Int) => .tup [encQ (cenQ (selI l w)), .bool true]) (toPs les) (toIs wes) | _ => .junk, false⟩
theorem gk_impl_CircleCenter : ∀ args, sp_impl_CircleCenter.pre args → ICall Try.prog 45 args (sp_impl_CircleCenter.val args) := by
  intro args h
  unfold sp_impl_CircleCenter at h ⊢; simp only at h ⊢; split at h
  · obtain ⟨h0, h1, h2, h3, h4, h5, h6⟩ := h
    obtain ⟨l0, rfl⟩ := isP_ex h0
    obtain ⟨l1, rfl⟩ := isI_ex h1
    simp only [toPs_enc, toIs_enc] at *
    exact c_impl_CircleCenter _ _ h2 h3 h4 h5 h6
  · exact h.elim
theorem en_impl_CircleCenter : Enters Try.prog 45 := enters_of Try.func45 (by kernel_rfl) rfl


/-! the center is the same -/
theorem redR_eq {n d m e : Int} (hd : 0 < d) (he : 0 < e) (h : n * e = m * d) : redR n d = redR m e := by
  obtain ⟨g1, a, b, ha, hb, hr, hc⟩ := red_gcd (n := n) (d := d) (by omega)
  obtain ⟨g2, a', b', ha', hb', hr', hc'⟩ := red_gcd (n := m) (d := e) (by omega)
  rw [hr, hr']
  generalize (Int.gcd n d : Int) = g at *
  generalize (Int.gcd m e : Int) = k at *
  have hbp : 0 < b := by
    rcases Int.lt_or_le 0 b with c | c
    · exact c
    · have := Int.mul_nonneg (show 0 ≤ -b by omega) (show 0 ≤ g by omega)
      rw [Int.neg_mul] at this; omega
  have hbp' : 0 < b' := by
    rcases Int.lt_or_le 0 b' with c | c
    · exact c
    · have := Int.mul_nonneg (show 0 ≤ -b' by omega) (show 0 ≤ k by omega)
      rw [Int.neg_mul] at this; omega
  have hx : a * b' = a' * b := by
    have h2 : (a * b' - a' * b) * (g * k) = 0 := by
      have e1 : n * e = a * b' * (g * k) := by rw [ha, hb']; grind
      have e2 : m * d = a' * b * (g * k) := by rw [ha', hb]; grind
      grind
    rcases Int.mul_eq_zero.1 h2 with z | z
    · omega
    · rcases Int.mul_eq_zero.1 z with z | z <;> omega
  have n1 : a.natAbs * b'.natAbs = a'.natAbs * b.natAbs := by rw [← Int.natAbs_mul, ← Int.natAbs_mul, hx]
  have c1 : Nat.Coprime b.natAbs a.natAbs := by rw [Nat.coprime_comm]; exact hc
  have c2 : Nat.Coprime b'.natAbs a'.natAbs := by rw [Nat.coprime_comm]; exact hc'
  have d1 : b.natAbs ∣ b'.natAbs := c1.dvd_of_dvd_mul_left ⟨a'.natAbs, by rw [n1, Nat.mul_comm]⟩
  have d2 : b'.natAbs ∣ b.natAbs := c2.dvd_of_dvd_mul_left ⟨a.natAbs, by rw [← n1, Nat.mul_comm]⟩
  have hbb : b = b' := by have := Nat.dvd_antisymm d1 d2; omega
  subst hbb
  have haa : a = a' := by
    have h3 : (a - a') * b = 0 := by grind
    rcases Int.mul_eq_zero.1 h3 with z | z <;> omega
  rw [haa]
theorem ratZ_eq {n d m e : Int} (hd : d ≠ 0) (he : e ≠ 0) (h : n * e = m * d) : ratZ n d = ratZ m e := by
  unfold ratZ
  split <;> split
  · exact redR_eq (by omega) (by omega) (by grind)
  · exact redR_eq (by omega) (by omega) (by grind)
  · exact redR_eq (by omega) (by omega) (by grind)
  · exact redR_eq (by omega) (by omega) h
theorem ratZ_one (x : Int) : ratZ x 1 = (x, 1) := by
  have : ratZ x 1 = redR x 1 := if_neg (by omega)
  rw [this]; unfold redR; simp
theorem cenQ_rat {S : List Pt} (h : detB S = true) : cenQ S = (ratZ (cenP S).1 (cenP S).2.2, ratZ (cenP S).2.1 (cenP S).2.2) := by
  match S, h with
  | [a], _ => simp only [cenQ, cenP, ratZ_one]
  | [a, b], _ => rfl
  | [a, b, c], _ => rfl
theorem cenQ_same {S1 S2 : List Pt} (h1 : detB S1 = true) (h2 : detB S2 = true) (e1 : ∀ s ∈ S1, encS S2 s = true) (e2 : ∀ s ∈ S2, encS S1 s = true) : cenQ S1 = cenQ S2 := by
  obtain ⟨R1, c1⟩ := circ_of h1
  obtain ⟨R2, c2⟩ := circ_of h2
  obtain ⟨k1, k2⟩ := circ_unique c1 c2 e1 e2
  rw [cenQ_rat h1, cenQ_rat h2, ratZ_eq c1.den c2.den k1, ratZ_eq c1.den c2.den k2]
theorem es_hull {l : List Pt} {w : List Nat} (h : esV l = some w) : okPs (hullP l) = true ∧ ∃ v, esV (hullP l) = some v ∧ cenQ (selP l w) = cenQ (selP (hullP l) v) := by
  obtain ⟨hk, h1, h2, h3, h4⟩ := es_facts h
  obtain ⟨d1, d2⟩ := supp_facts h1
  have hko : okPs (hullP l) = true := by
    simp only [okPs, Bool.and_eq_true, List.all_eq_true, decide_eq_true_eq] at hk ⊢
    exact ⟨fun p hp => hk.1 p (mem_hullP_sub hp), by have := hullP_len l; omega⟩
  have hin : ∀ s ∈ selP l w, s ∈ l := fun s hs => by
    obtain ⟨x, hx, rfl⟩ := List.mem_map.1 hs
    exact pA_mem (up_lt h4 x hx).2
  obtain ⟨R, c⟩ := circ_of d1
  have hh := circ_hull c hin d2
  obtain ⟨v, v1, v2, v3, v4⟩ := supp_hull h1 hh (fun p hp => mem_hullP_sub hp)
  have hV : esV (hullP l) = srchP (suppB (hullP l)) (hullP l).length := by rw [esV, hko]; rfl
  refine ⟨hko, ?_⟩
  cases hs : esV (hullP l) with
  | none =>
    rw [hV, srch_none] at hs
    rw [hs v v1 v2 v3] at v4; cases v4
  | some u =>
    obtain ⟨_, u1, u2, u3, u4⟩ := es_facts hs
    obtain ⟨x1, x2⟩ := supp_facts u1
    have hin2 : ∀ s ∈ selP (hullP l) u, s ∈ hullP l := fun s hs => by
      obtain ⟨x, hx, rfl⟩ := List.mem_map.1 hs
      exact pA_mem (up_lt u4 x hx).2
    exact ⟨u, rfl, cenQ_same d1 x1 (fun s hs => x2 s (hh s hs)) (fun s hs => d2 s (mem_hullP_sub (hin2 s hs)))⟩
def g_laws_FnEnclosingHull : List (Nat × PSpec) := [(39, sp_spec_DrawEnclosingSupport), (40, sp_impl_EnclosingSupport), (41, sp_spec_EnclosingSupport), (17, sp_laws_equalInts), (44, sp_impl_Hull), (45, sp_impl_CircleCenter)]
theorem gok_laws_FnEnclosingHull : GOK Try.prog g_laws_FnEnclosingHull := gok_cons gk_spec_DrawEnclosingSupport en_spec_DrawEnclosingSupport (gok_cons gk_impl_EnclosingSupport en_impl_EnclosingSupport (gok_cons gk_spec_EnclosingSupport en_spec_EnclosingSupport (gok_cons gk_laws_equalInts en_laws_equalInts (gok_cons gk_impl_Hull en_impl_Hull (gok_cons gk_impl_CircleCenter en_impl_CircleCenter (gok0))))))
theorem lk_laws_FnEnclosingHull_spec_DrawEnclosingSupport : lkG g_laws_FnEnclosingHull 39 = sp_spec_DrawEnclosingSupport := rfl
theorem lk_laws_FnEnclosingHull_impl_EnclosingSupport : lkG g_laws_FnEnclosingHull 40 = sp_impl_EnclosingSupport := rfl
theorem lk_laws_FnEnclosingHull_spec_EnclosingSupport : lkG g_laws_FnEnclosingHull 41 = sp_spec_EnclosingSupport := rfl
theorem lk_laws_FnEnclosingHull_laws_equalInts : lkG g_laws_FnEnclosingHull 17 = sp_laws_equalInts := rfl
theorem lk_laws_FnEnclosingHull_impl_Hull : lkG g_laws_FnEnclosingHull 44 = sp_impl_Hull := rfl
theorem lk_laws_FnEnclosingHull_impl_CircleCenter : lkG g_laws_FnEnclosingHull 45 = sp_impl_CircleCenter := rfl
def h_laws_FnEnclosingHull : List (Nat × HSpec) := []
theorem hok_laws_FnEnclosingHull : HOK Try.prog h_laws_FnEnclosingHull := hok0
theorem c_laws_FnEnclosingHull (b : List Int) (hb : ∀ x ∈ b, 0 ≤ x ∧ x < 256) : ICall Try.prog 9 [.sl 1 (encBy b)] (.bool true) := by
  refine icall_V (G := g_laws_FnEnclosingHull) (H := []) [] tabOK mixed gok_laws_FnEnclosingHull hok_laws_FnEnclosingHull Try.func9 rfl Try.ntmps9 Try.results9 rfl (by kernel_rfl) fun F hN hlen => ?_
  have el := len_encBy b
  have bb2 : ∀ x : Bool, (x == x) = true := fun x => by simp
  have hself : ∀ x : List Int, (x == x) = true := fun x => by simp
  cases d1 : decide (1048576 < (b.length : Int)) with
  | true => simp only [V_seq, V_ret, V_region, V_cond, brW_true, W_nil, W_cons, effOp2, KN_seq, KXr_nil, KXr_seq, QE, asB, effOp, effPure, pureV, binV, lenV, ofC, strip, lkT, lkH, ISt.app, opI, gO, gB, allB, gval, wrapG, dstOK, setD, clean, enumT, Gives, Ideal.Fin, conv, conv0, Op.operands, Call.operands, List.append_toArray, reduceIte, reduceCtorEq, Nat.reduceLT, Nat.reduceEqDiff, ne_eq, not_false_eq_true, and_self, implies_true, List.nil_append, List.cons_append, List.append_nil, tab22, hN, el, d1]
  | false =>
    have hsz : b.length ≤ 1048576 := by simp at d1; omega
    obtain ⟨l, hl⟩ : ∃ l, drawPts b 8 = l := ⟨_, rfl⟩
    cases hc : esV l with
    | none =>
      have en : encN ((esV l).getD []) = encI [] := by rw [hc]; rfl
      have e0 : (encI []).length = 0 := rfl
      have d0 : (((0 : Nat) : Int) == 0) = true := rfl
      simp only [V_seq, V_skip, V_ret, V_region, V_cond, brW_true, brW_false, W_nil, W_cons, effOp2, KN_seq, KXr_nil, KXr_seq, QE, asB, effOp, effPure, effPick, effCall, giveUp, hasAll, pureV, pickV, binV, lenV, ofC, strip, lkT, lkH, ISt.app, opI, gO, gB, allB, gval, wrapG, dstOK, setD, lendV, lendP, lent, lentP, idsV, idsL, lkHS, flat, clean, callArgs, callFn, allLent, enumT, Gives, Ideal.Fin, conv, conv0, Op.operands, Call.operands, List.append_toArray, reduceIte, reduceCtorEq, cond_true, cond_false, Bool.or_false, Bool.not_true, Nat.reduceLT, Nat.reduceEqDiff, ne_eq, not_false_eq_true, beq_self_eq_true, true_and, and_true, and_self, implies_true, forall_const, List.map_cons, List.map_nil, List.nil_append, List.cons_append, List.append_nil, Option.bind_some, List.getElem?_cons_zero, List.getElem?_cons_succ, ex_clo, or_true, or_self, Bool.false_eq_true, tab22, tab25, hN, isPs_enc, toPs_enc, isIs_enc, toIs_enc, isBy_enc, toBy_enc, lk_laws_FnEnclosingHull_spec_DrawEnclosingSupport, lk_laws_FnEnclosingHull_impl_EnclosingSupport, lk_laws_FnEnclosingHull_spec_EnclosingSupport, lk_laws_FnEnclosingHull_laws_equalInts, sp_spec_DrawEnclosingSupport, sp_impl_EnclosingSupport, sp_spec_EnclosingSupport, sp_laws_equalInts, el, d1, hsz, hl, en, e0, d0]
      exact hb
    | some w =>
      obtain ⟨hk, h1, h2, h3, h4⟩ := es_facts hc
      obtain ⟨hko, v, hv, hcc⟩ := es_hull hc
      obtain ⟨_, g1, g2, g3, g4⟩ := es_facts hv
      have mk : ∀ {m : List Pt} {u : List Nat}, Up 0 m.length u → u.length ≤ 3 → (∀ x ∈ natI u, 0 ≤ x ∧ x < (m.length : Int)) ∧ (natI u).length ≤ 1000000 := by
        intro m u hu hn
        refine ⟨fun x hx => ?_, by rw [natI, List.length_map]; omega⟩
        obtain ⟨y, hy, rfl⟩ := List.mem_map.1 hx
        have := (up_lt hu y hy).2
        exact ⟨by omega, by omega⟩
      have en : encN ((esV l).getD []) = encI (natI w) := by rw [hc]; rfl
      have en2 : encN ((esV (hullP l)).getD []) = encI (natI v) := by rw [hv]; rfl
      have ew : (encI (natI w)).length = w.length := by rw [len_encI, natI, List.length_map]
      have d0 : (((w.length : Nat) : Int) == 0) = false := by rw [beq_eq_false_iff_ne]; omega
      obtain ⟨hW1, hW2⟩ := mk h4 h3
      obtain ⟨hU1, hU2⟩ := mk g4 g3
      have hA := asc_natI h4
      have hB := asc_natI g4
      have hd1 : detB (selI l (natI w)) = true := by rw [selI_natI]; exact (supp_facts h1).1
      have hd2 : detB (selI (hullP l) (natI v)) = true := by rw [selI_natI]; exact (supp_facts g1).1
      have hce : cenQ (selI (hullP l) (natI v)) = cenQ (selI l (natI w)) := by rw [selI_natI, selI_natI]; exact hcc.symm
      have hh : (if okPs l = true then hullP l else []) = hullP l := if_pos hk
      simp only [V_seq, V_skip, V_ret, V_region, V_cond, brW_false, W_nil, W_cons, effOp2, KN_seq, KXr_nil, QE, asB, effOp, effPure, effPick, effNew, effAlloc, effStore, effCall, giveUp, hasAll, skipE, pureV, pickV, storeV, binV, partV, loadV, lenV, over, solid, IV.cells, ofC, strip, lkT, lkH, ISt.app, opI, gO, gB, allB, gval, wrapG, dstOK, setD, mentTm, mentHp, IV.ment, IV.mentL, oneI, lendV, lendP, lent, lentP, idsV, idsL, lkHS, flat, flatL, clean, cleanL, callArgs, callFn, allLent, enumT, Gives, Ideal.Fin, conv, conv0, eqL, numsOnly, Op.operands, Call.operands, List.append_toArray, reduceIte, reduceCtorEq, cond_true, cond_false, Bool.or_false, Bool.and_true, Bool.not_true, Nat.reduceAdd, Nat.reduceLT, Nat.reduceLeDiff, Nat.reduceEqDiff, Nat.reduceBEq, Nat.zero_add, ne_eq, not_false_eq_true, beq_self_eq_true, true_and, and_true, and_false, and_self, implies_true, forall_const, List.map_cons, List.map_nil, List.nil_append, List.cons_append, List.append_nil, List.all_cons, List.all_nil, Option.bind_some, List.getElem?_cons_zero, List.getElem?_cons_succ, List.getD_cons_zero, List.getD_cons_succ, List.length_cons, List.length_nil, List.take_succ_cons, List.take_zero, List.take_nil, List.drop_succ_cons, List.drop_zero, List.drop_nil, ex_clo, or_true, or_self, Bool.true_eq_false, Bool.false_eq_true, tab22, tab25, tab60, hN, encQ, isPs_enc, toPs_enc, isIs_enc, toIs_enc, isBy_enc, toBy_enc, lk_laws_FnEnclosingHull_spec_DrawEnclosingSupport, lk_laws_FnEnclosingHull_impl_EnclosingSupport, lk_laws_FnEnclosingHull_spec_EnclosingSupport, lk_laws_FnEnclosingHull_laws_equalInts, lk_laws_FnEnclosingHull_impl_Hull, lk_laws_FnEnclosingHull_impl_CircleCenter, sp_spec_DrawEnclosingSupport, sp_impl_EnclosingSupport, sp_spec_EnclosingSupport, sp_laws_equalInts, sp_impl_Hull, sp_impl_CircleCenter, el, d1, hsz, hl, hk, hko, en, en2, ew, d0, hW2, hU2, hA, hB, hd1, hd2, hce]
      exact ⟨hb, hW1, hU1⟩
def sp_laws_FnEnclosingHull : PSpec := ⟨fun xs => match xs with | [.sl 1 bes] => isBy bes ∧ ((fun (b : List Int) => ∀ x ∈ b, 0 ≤ x ∧ x < 256) (toIs bes)) | _ => False, fun xs => match xs with | [.sl _ bes] => (fun (b : List Int) => .bool true) (toIs bes) | _ => .junk, false⟩
theorem gk_laws_FnEnclosingHull : ∀ args, sp_laws_FnEnclosingHull.pre args → ICall Try.prog 9 args (sp_laws_FnEnclosingHull.val args) := by
  intro args h
  unfold sp_laws_FnEnclosingHull at h ⊢; simp only at h ⊢; split at h
  · obtain ⟨h0, h1⟩ := h
    obtain ⟨l0, rfl⟩ := isBy_ex h0
    simp only [toBy_enc] at *
    exact c_laws_FnEnclosingHull _ h1
  · exact h.elim
theorem en_laws_FnEnclosingHull : Enters Try.prog 9 := enters_of Try.func9 (by kernel_rfl) rfl

end Go.Proofs.Ytemppebemahkoaa
