/- Contracts: the corners of a region of half-planes, the reference's side. -/
import Derived.Test.YtemppebemahkoaaB30
set_option linter.unusedVariables false
set_option linter.unusedSimpArgs false
set_option maxHeartbeats 1600000
set_option maxRecDepth 100000
namespace Go.Proofs.Ytemppebemahkoaa
open Go Go.Ideal Go.Pl Go.Sort

def g_spec_box : List (Nat × PSpec) := []
theorem gok_spec_box : GOK Try.prog g_spec_box := gok0
def h_spec_box : List (Nat × HSpec) := []
theorem hok_spec_box : HOK Try.prog h_spec_box := hok0
theorem c_spec_box   : ICall Try.prog 155 [] (.sl 3 (encTs boxL)) := by
  refine icall_V (G := g_spec_box) (H := []) [] tabOK mixed gok_spec_box hok_spec_box Try.func155 rfl Try.ntmps155 Try.results155 rfl (by kernel_rfl) fun F hN hlen => ?_
  simp only [V_seq, V_ret, V_region, W_nil, W_cons, effOp2, KN_seq, KXr_nil, QE, effOp, effPure, effNew, effBuildSlice, effFrz, frz, tmpsOf, skipE, pureV, over, solid, buildL, IV.cells, ofC, strip, lkT, lkH, ISt.app, opI, gO, gB, allB, gval, wrapG, dstOK, setD, mentTm, mentHp, IV.ment, IV.mentL, partsL, eltsI, eltI, oneI, noId', enumT, Gives, Ideal.Fin, conv, conv0, Op.operands, reduceIte, reduceCtorEq, cond_true, Bool.or_false, Bool.and_true, Nat.reduceAdd, Nat.reduceMul, Nat.reduceLT, Nat.reduceLeDiff, Nat.reduceEqDiff, Nat.zero_add, ne_eq, not_false_eq_true, true_and, and_self, implies_true, List.map_cons, List.map_nil, List.nil_append, List.cons_append, List.append_nil, List.all_cons, List.all_nil, Option.some.injEq, List.getD_cons_zero, List.getD_cons_succ, List.length_cons, List.length_nil, List.take_succ_cons, List.take_zero, List.drop_succ_cons, List.drop_zero, List.drop_nil, tab43, tab98, hN]
  exact ⟨_, _, rfl, by decide, rfl, by simp⟩
def sp_spec_box : PSpec := ⟨fun xs => match xs with | [] => True | _ => False, fun xs => match xs with | [] => (.sl 3 (encTs boxL)) | _ => .junk, false⟩
theorem gk_spec_box : ∀ args, sp_spec_box.pre args → ICall Try.prog 155 args (sp_spec_box.val args) := by
  intro args h
  unfold sp_spec_box at h ⊢; simp only at h ⊢; split at h
  · exact c_spec_box 
  · exact h.elim
theorem en_spec_box : Enters Try.prog 155 := enters_of Try.func155 (by kernel_rfl) rfl

def g_spec_sameDirection : List (Nat × PSpec) := []
theorem gok_spec_sameDirection : GOK Try.prog g_spec_sameDirection := gok0
def h_spec_sameDirection : List (Nat × HSpec) := []
theorem hok_spec_sameDirection : HOK Try.prog h_spec_sameDirection := hok0
theorem c_spec_sameDirection (g : Tr) (h : Tr) (hg : smH g) (hh : smH h) : ICall Try.prog 156 [encT g, encT h] (.bool (denH g h == 0)) := by
  refine icall_V (G := g_spec_sameDirection) (H := []) [] tabOK mixed gok_spec_sameDirection hok_spec_sameDirection Try.func156 rfl Try.ntmps156 Try.results156 rfl (by kernel_rfl) fun F hN hlen => ?_
  have m1 := mulB hg.1 hh.2.1
  have m2 := mulB hh.1 hg.2.1
  have v1 : IntKind.i64.wrap (g.1 * h.2.1) = g.1 * h.2.1 := wr (by omega) (by omega)
  have v2 : IntKind.i64.wrap (h.1 * g.2.1) = h.1 * g.2.1 := wr (by omega) (by omega)
  have hv : (denH g h == 0) = (g.1 * h.2.1 == h.1 * g.2.1) := by
    rw [Bool.eq_iff_iff, beq_iff_eq, beq_iff_eq]; unfold denH; omega
  simp only [V_seq, V_ret, V_region, W_nil, W_cons, effOp2, KN_seq, KXr_nil, QE, effOp, effPure, effNew, effBox, skipE, pureV, binV, partV, loadV, faddrV, solid, IV.cells, ofC, strip, lkT, lkH, ISt.app, opI, gO, gB, allB, gval, wrapG, dstOK, setD, mentTm, mentHp, IV.ment, IV.mentL, oneI, clean, enumT, Gives, Ideal.Fin, conv, conv0, IBlk.shape, Op.operands, reduceIte, reduceCtorEq, cond_true, Bool.or_false, Bool.and_true, Nat.reduceAdd, Nat.reduceLT, Nat.reduceLeDiff, Nat.reduceEqDiff, Nat.reduceBEq, Nat.add_zero, Nat.zero_add, and_self, implies_true, List.nil_append, List.cons_append, List.append_nil, List.all_cons, List.all_nil, Option.map_some, List.getD_cons_zero, List.getD_cons_succ, List.length_cons, List.length_nil, List.take_succ_cons, List.take_zero, List.drop_succ_cons, List.drop_zero, tab3, tab143, hN, encT, v1, v2, hv]
def sp_spec_sameDirection : PSpec := ⟨fun xs => match xs with | [.agg [.num .i64 g1, .num .i64 g2, .num .i64 g3], .agg [.num .i64 h1, .num .i64 h2, .num .i64 h3]] => ((fun (g : Tr) (h : Tr) => smH g) (g1, g2, g3) (h1, h2, h3)) ∧ ((fun (g : Tr) (h : Tr) => smH h) (g1, g2, g3) (h1, h2, h3)) | _ => False, fun xs => match xs with | [.agg [.num _ g1, .num _ g2, .num _ g3], .agg [.num _ h1, .num _ h2, .num _ h3]] => (fun (g : Tr) (h : Tr) => .bool (denH g h == 0)) (g1, g2, g3) (h1, h2, h3) | _ => .junk, false⟩
theorem gk_spec_sameDirection : ∀ args, sp_spec_sameDirection.pre args → ICall Try.prog 156 args (sp_spec_sameDirection.val args) := by
  intro args h
  unfold sp_spec_sameDirection at h ⊢; simp only at h ⊢; split at h
  · obtain ⟨h0, h1⟩ := h
    simp only [toPs_enc] at *
    exact c_spec_sameDirection (_, _, _) (_, _, _) h0 h1
  · exact h.elim
theorem en_spec_sameDirection : Enters Try.prog 156 := enters_of Try.func156 (by kernel_rfl) rfl

def meetQ (g h : Tr) : Qd := (ratQ (xH g h) (denH g h), ratQ (yH g h) (denH g h))
def g_spec_meetLines : List (Nat × PSpec) := [(213, sp_spec_ratio)]
theorem gok_spec_meetLines : GOK Try.prog g_spec_meetLines := gok_cons gk_spec_ratio en_spec_ratio (gok0)
theorem lk_spec_meetLines_spec_ratio : lkG g_spec_meetLines 213 = sp_spec_ratio := rfl
def h_spec_meetLines : List (Nat × HSpec) := []
theorem hok_spec_meetLines : HOK Try.prog h_spec_meetLines := hok0
theorem c_spec_meetLines (g : Tr) (h : Tr) (hg : smH g) (hh : smH h) (hd : denH g h ≠ 0) : ICall Try.prog 157 [encT g, encT h] (encQ (meetQ g h)) := by
  refine icall_of_hcall (v := encQ (meetQ g h)) (hp' := []) id ?_ (by simp [SLe0, convTm, convHp, conv, convL, conv0, lkT, clean, encQ]) (by simp [idsV, idsL, encQ])
  refine hcall_V (G := g_spec_meetLines) (H := []) [(2, [(0, 12), (1, 12), (2, 12), (3, 12), (4, 12), (5, 12), (6, 12), (7, 12), (8, 12), (9, 12), (12, 13), (12, 14), (12, 15), (12, 16), (12, 17), (12, 18), (12, 19), (12, 20), (12, 21), (12, 22), (12, 23), (12, 24), (0, 25), (1, 25), (2, 25), (3, 25), (4, 25), (5, 25), (6, 25), (7, 25), (8, 25), (9, 25), (10, 25), (11, 25), (13, 25), (14, 25), (15, 25), (16, 25), (17, 25), (18, 25), (19, 25), (20, 25), (21, 25), (22, 25)])] tabOK mixed gok_spec_meetLines hok_spec_meetLines Try.func157 rfl Try.ntmps157 Try.results157 rfl (by kernel_rfl) fun F hN hlen => ?_
  have b1 := den_bd hg hh
  have b2 := x_bd hg hh
  have b3 := y_bd hg hh
  have m1 := mulB hg.1 hh.2.1
  have m2 := mulB hh.1 hg.2.1
  have m3 := mulB hg.2.2 hh.2.1
  have m4 := mulB hh.2.2 hg.2.1
  have m5 := mulB hg.1 hh.2.2
  have m6 := mulB hh.1 hg.2.2
  have v1 : IntKind.i64.wrap (g.1 * h.2.1) = g.1 * h.2.1 := wr (by omega) (by omega)
  have v2 : IntKind.i64.wrap (h.1 * g.2.1) = h.1 * g.2.1 := wr (by omega) (by omega)
  have v3 : IntKind.i64.wrap (g.2.2 * h.2.1) = g.2.2 * h.2.1 := wr (by omega) (by omega)
  have v4 : IntKind.i64.wrap (h.2.2 * g.2.1) = h.2.2 * g.2.1 := wr (by omega) (by omega)
  have v5 : IntKind.i64.wrap (g.1 * h.2.2) = g.1 * h.2.2 := wr (by omega) (by omega)
  have v6 : IntKind.i64.wrap (h.1 * g.2.2) = h.1 * g.2.2 := wr (by omega) (by omega)
  have f1 : IntKind.i64.wrap (g.1 * h.2.1 - h.1 * g.2.1) = denH g h := wr (by unfold denH at b1; omega) (by unfold denH at b1; omega)
  have f2 : IntKind.i64.wrap (g.2.2 * h.2.1 - h.2.2 * g.2.1) = xH g h := wr (by unfold xH at b2; omega) (by unfold xH at b2; omega)
  have f3 : IntKind.i64.wrap (g.1 * h.2.2 - h.1 * g.2.2) = yH g h := wr (by unfold yH at b3; omega) (by unfold yH at b3; omega)
  have p1 : -20000000 ≤ denH g h ∧ denH g h ≤ 20000000 := by omega
  have p2 : -20000000000 ≤ xH g h ∧ xH g h ≤ 20000000000 := by omega
  have p3 : -20000000000 ≤ yH g h ∧ yH g h ≤ 20000000000 := by omega
  simp only [V_seq, V_ret, V_region, V_draw, drawW, WS_nil, pairsOf, W_nil, W_cons, effOp2, effOp3, WI_nil, WI_cons, KN_seq, KXr_nil, QE, dynOK, indB, farB, freshB, freshK, freshK1, heapy, effOp, effPure, effNew, effAlloc, effBox, effStore, effCall, giveUp, hasAll, skipE, pureV, storeV, binV, partV, loadV, faddrV, over, solid, buildL, IV.cells, ofC, strip, lkT, lkH, ISt.app, opI, gO, gB, allB, gval, wrapG, dstOK, setD, mentTm, mentHp, IV.ment, IV.mentL, oneI, lendV, lendP, lent, lentP, idsV, idsL, lkHS, flat, flatL, clean, cleanL, callArgs, callFn, allLent, enumT, conv, conv0, convL, IBlk.shape, Op.operands, Call.operands, List.append_toArray, reduceIte, reduceCtorEq, cond_true, cond_false, Bool.or_false, Bool.and_true, Bool.and_eq_true, Bool.not_true, Bool.not_false, Nat.reduceAdd, Nat.reduceLT, Nat.reduceLeDiff, Nat.reduceEqDiff, Nat.reduceBEq, Nat.add_zero, Nat.zero_add, ne_eq, not_false_eq_true, true_and, and_true, and_false, and_self, implies_true, List.map_cons, List.map_nil, List.nil_append, List.cons_append, List.append_nil, List.all_cons, List.all_nil, Option.map_some, List.getD_cons_zero, List.getD_cons_succ, List.length_cons, List.length_nil, List.take_succ_cons, List.take_zero, List.take_nil, List.drop_succ_cons, List.drop_zero, List.drop_nil, ex_clo, or_self, tab3, tab60, tab143, hN, encP, encT, encQ, FinH, resA, resV, SLe, SLe0, convTm, convHp, lk_spec_meetLines_spec_ratio, sp_spec_ratio, v1, v2, v3, v4, v5, v6, f1, f2, f3, hd, p1, p2, p3]
  exact ⟨id, ⟨⟨rfl, rfl, rfl, rfl⟩, List.nodup_nil⟩, fun _ _ _ => rfl⟩
def sp_spec_meetLines : PSpec := ⟨fun xs => match xs with | [.agg [.num .i64 g1, .num .i64 g2, .num .i64 g3], .agg [.num .i64 h1, .num .i64 h2, .num .i64 h3]] => ((fun (g : Tr) (h : Tr) => smH g) (g1, g2, g3) (h1, h2, h3)) ∧ ((fun (g : Tr) (h : Tr) => smH h) (g1, g2, g3) (h1, h2, h3)) ∧ ((fun (g : Tr) (h : Tr) => denH g h ≠ 0) (g1, g2, g3) (h1, h2, h3)) | _ => False, fun xs => match xs with | [.agg [.num _ g1, .num _ g2, .num _ g3], .agg [.num _ h1, .num _ h2, .num _ h3]] => (fun (g : Tr) (h : Tr) => encQ (meetQ g h)) (g1, g2, g3) (h1, h2, h3) | _ => .junk, false⟩
theorem gk_spec_meetLines : ∀ args, sp_spec_meetLines.pre args → ICall Try.prog 157 args (sp_spec_meetLines.val args) := by
  intro args h
  unfold sp_spec_meetLines at h ⊢; simp only at h ⊢; split at h
  · obtain ⟨h0, h1, h2⟩ := h
    simp only [toPs_enc] at *
    exact c_spec_meetLines (_, _, _) (_, _, _) h0 h1 h2
  · exact h.elim
theorem en_spec_meetLines : Enters Try.prog 157 := enters_of Try.func157 (by kernel_rfl) rfl

def g_spec_sideOfRat : List (Nat × PSpec) := [(188, sp_spec_gcd), (198, sp_spec_sign)]
theorem gok_spec_sideOfRat : GOK Try.prog g_spec_sideOfRat := gok_cons gk_spec_gcd en_spec_gcd (gok_cons gk_spec_sign en_spec_sign (gok0))
theorem lk_spec_sideOfRat_spec_gcd : lkG g_spec_sideOfRat 188 = sp_spec_gcd := rfl
theorem lk_spec_sideOfRat_spec_sign : lkG g_spec_sideOfRat 198 = sp_spec_sign := rfl
def h_spec_sideOfRat : List (Nat × HSpec) := []
theorem hok_spec_sideOfRat : HOK Try.prog h_spec_sideOfRat := hok0
theorem c_spec_sideOfRat (a : Int) (b : Int) (c : Int) (p : Qd) (hk : smH (a, b, c)) (hp : sqQ p) : ICall Try.prog 214 [.num .i64 a, .num .i64 b, .num .i64 c, encQ p] (.num .i64 (sgnI (sideQ (a, b, c) p))) := by
  refine icall_V (G := g_spec_sideOfRat) (H := []) [(4, [(0, 19), (1, 19), (2, 19), (3, 19), (4, 19), (5, 19), (6, 19), (7, 19), (8, 19), (9, 19), (10, 19), (11, 19), (12, 19), (13, 19), (14, 19), (15, 19), (16, 19), (17, 19)])] tabOK mixed gok_spec_sideOfRat hok_spec_sideOfRat Try.func214 rfl Try.ntmps214 Try.results214 rfl (by kernel_rfl) fun F hN hlen => ?_
  obtain ⟨b1, b2, hr, h1, h2, he, h3, h4, h5, h6, h7, _, _⟩ := sq_facts hp
  have hv : sideQ (a, b, c) p = a * (p.1.1 * b2) + b * (p.2.1 * b1) - c * b1 * p.2.2 := by rw [side_eq, hr]
  obtain ⟨k1, k2, k3, k4, _⟩ := hp
  obtain ⟨hg, _⟩ := red_gcd (n := p.1.2) (d := p.2.2) (by omega)
  have hg0 : (Int.gcd p.1.2 p.2.2 : Int) ≠ 0 := by omega
  have e1 : p.1.2.tdiv (Int.gcd p.1.2 p.2.2) = b1 := congrArg Prod.fst hr
  have e2 : p.2.2.tdiv (Int.gcd p.1.2 p.2.2) = b2 := congrArg Prod.snd hr
  have z1 : 0 ≤ p.1.2 ∧ p.1.2 ≤ 9223372036854775807 := by omega
  have z2 : 0 ≤ p.2.2 ∧ p.2.2 ≤ 9223372036854775807 := by omega
  obtain ⟨s1, s2, s3⟩ := hk
  simp only [] at s1 s2 s3
  have m1 := mulB s1 h6
  have m2 := mulB s2 h7
  have m3 := mulB (B := 20000000) s3 (show -20000000 ≤ b1 ∧ b1 ≤ 20000000 by omega)
  have m4 := mulB (B := 20000000) s3 (show -20000000 ≤ b1 * p.2.2 ∧ b1 * p.2.2 ≤ 20000000 by have := Int.mul_pos h1 k2; omega)
  rw [← Int.mul_assoc] at m4
  have w1 : IntKind.i64.wrap b1 = b1 := wr (by omega) (by omega)
  have w2 : IntKind.i64.wrap b2 = b2 := wr (by omega) (by omega)
  have w3 : IntKind.i64.wrap (p.1.1 * b2) = p.1.1 * b2 := wr (by omega) (by omega)
  have w4 : IntKind.i64.wrap (p.2.1 * b1) = p.2.1 * b1 := wr (by omega) (by omega)
  have w5 : IntKind.i64.wrap (a * (p.1.1 * b2)) = a * (p.1.1 * b2) := wr (by omega) (by omega)
  have w6 : IntKind.i64.wrap (b * (p.2.1 * b1)) = b * (p.2.1 * b1) := wr (by omega) (by omega)
  have w7 : IntKind.i64.wrap (a * (p.1.1 * b2) + b * (p.2.1 * b1)) = a * (p.1.1 * b2) + b * (p.2.1 * b1) := wr (by omega) (by omega)
  have w8 : IntKind.i64.wrap (c * b1) = c * b1 := wr (by omega) (by omega)
  have w9 : IntKind.i64.wrap (c * b1 * p.2.2) = c * b1 * p.2.2 := wr (by omega) (by omega)
  have w10 : IntKind.i64.wrap (a * (p.1.1 * b2) + b * (p.2.1 * b1) - c * b1 * p.2.2) = sideQ (a, b, c) p := by rw [hv]; exact wr (by omega) (by omega)
  simp only [V_seq, V_ret, V_region, V_draw, drawW, WS_nil, pairsOf, W_nil, W_cons, WD_nil, WD_cons, effOp2, effOp3, WI_nil, WI_cons, KN_seq, KXr_nil, QE, dynOK, indB, farB, freshB, freshK, freshK1, heapy, effOp, effPure, effNew, effBox, effCall, giveUp, hasAll, skipE, pureV, binV, partV, loadV, faddrV, solid, IV.cells, ofC, strip, lkT, lkH, ISt.app, opI, gO, gB, allB, gval, wrapG, dstOK, setD, mentTm, mentHp, IV.ment, IV.mentL, oneI, lendV, lendP, lent, lentP, idsV, idsL, lkHS, flat, clean, callArgs, callFn, allLent, enumT, Gives, Ideal.Fin, conv, conv0, IBlk.shape, Op.operands, Call.operands, List.append_toArray, reduceIte, reduceCtorEq, cond_true, cond_false, Bool.or_false, Bool.and_true, Bool.and_eq_true, Bool.not_true, Bool.not_false, Nat.reduceAdd, Nat.reduceLT, Nat.reduceLeDiff, Nat.reduceEqDiff, Nat.reduceBEq, Nat.add_zero, Nat.zero_add, ne_eq, not_false_eq_true, and_true, and_self, implies_true, List.map_cons, List.map_nil, List.nil_append, List.cons_append, List.append_nil, List.all_cons, List.all_nil, Option.map_some, List.getD_cons_zero, List.getD_cons_succ, List.length_cons, List.length_nil, List.take_succ_cons, List.take_zero, List.take_nil, List.drop_succ_cons, List.drop_zero, ex_clo, or_self, tab3, tab58, tab60, hN, encQ, lk_spec_sideOfRat_spec_gcd, lk_spec_sideOfRat_spec_sign, sp_spec_gcd, sp_spec_sign, z1, z2, hg0, e1, e2, w1, w2, w3, w4, w5, w6, w7, w8, w9, w10]
def sp_spec_sideOfRat : PSpec := ⟨fun xs => match xs with | [.num .i64 a, .num .i64 b, .num .i64 c, .agg [.num .i64 p1, .num .i64 p2, .num .i64 p3, .num .i64 p4]] => ((fun (a : Int) (b : Int) (c : Int) (p : Qd) => smH (a, b, c)) a b c ((p1, p2), (p3, p4))) ∧ ((fun (a : Int) (b : Int) (c : Int) (p : Qd) => sqQ p) a b c ((p1, p2), (p3, p4))) | _ => False, fun xs => match xs with | [.num _ a, .num _ b, .num _ c, .agg [.num _ p1, .num _ p2, .num _ p3, .num _ p4]] => (fun (a : Int) (b : Int) (c : Int) (p : Qd) => .num .i64 (sgnI (sideQ (a, b, c) p))) a b c ((p1, p2), (p3, p4)) | _ => .junk, false⟩
theorem gk_spec_sideOfRat : ∀ args, sp_spec_sideOfRat.pre args → ICall Try.prog 214 args (sp_spec_sideOfRat.val args) := by
  intro args h
  unfold sp_spec_sideOfRat at h ⊢; simp only at h ⊢; split at h
  · obtain ⟨h0, h1⟩ := h
    simp only [toPs_enc] at *
    exact c_spec_sideOfRat _ _ _ ((_, _), (_, _)) h0 h1
  · exact h.elim
theorem en_spec_sideOfRat : Enters Try.prog 214 := enters_of Try.func214 (by kernel_rfl) rfl

theorem sgn_gt (x : Int) : decide (0 < sgnI x) = !decide (x ≤ 0) := by
  rw [Bool.eq_iff_iff]
  unfold sgnI
  split
  · simp; omega
  · split <;> simp <;> omega
def g_spec_inside : List (Nat × PSpec) := [(214, sp_spec_sideOfRat)]
theorem gok_spec_inside : GOK Try.prog g_spec_inside := gok_cons gk_spec_sideOfRat en_spec_sideOfRat (gok0)
theorem lk_spec_inside_spec_sideOfRat : lkG g_spec_inside 214 = sp_spec_sideOfRat := rfl
def h_spec_inside : List (Nat × HSpec) := []
theorem hok_spec_inside : HOK Try.prog h_spec_inside := hok0
theorem c_spec_inside (l : List Tr) (p : Qd) (hs : ∀ k ∈ l, smH k) (hp : sqQ p) (hsz : l.length ≤ 1000000) : ICall Try.prog 159 [.sl 3 (encTs l), encQ p] (.bool (insH l p)) := by
  refine icall_V (G := g_spec_inside) (H := []) [(4, [(0, 16), (1, 16), (2, 16), (3, 16), (5, 16), (6, 16), (7, 16), (8, 16), (10, 16), (11, 16), (12, 16), (13, 16)])] tabOK mixed gok_spec_inside hok_spec_inside Try.func159 rfl Try.ntmps159 Try.results159 rfl (by kernel_rfl) fun F hN hlen => ?_
  have el := len_encTs l
  simp only [V_seq, V_block, V_region, W_nil, W_cons, effOp2, KN_seq, effOp, effPure, effNew, effBox, skipE, pureV, solid, IV.cells, ofC, strip, lkT, ISt.app, opI, gO, gB, allB, gval, wrapG, dstOK, setD, mentTm, mentHp, IV.ment, IV.mentL, oneI, enumT, Op.operands, reduceIte, reduceCtorEq, cond_true, Bool.or_false, Bool.and_true, Nat.reduceLT, Nat.zero_add, true_and, and_self, implies_true, List.nil_append, List.cons_append, List.append_nil, List.all_cons, List.all_nil, hN, encQ]
  refine V_loop (α := Nat) ⟨tabOK, mixed, gok_spec_inside, hok_spec_inside⟩ (by kernel_rfl) (fun i => i ≤ l.length ∧ insH l p = insH (l.drop i) p) (fun i => ⟨[(5, .num .i64 i), (3, .ptr 3 0), (0, .sl 3 (encTs l))], [(3, some (.box 60 [.num .i64 p.1.1, .num .i64 p.1.2, .num .i64 p.2.1, .num .i64 p.2.2]))]⟩) (fun i => l.length - i) 0 id (by simp) (by simp [SLe, SLe0, convTm, convHp, convB, conv, conv0, convL, lkT, lkH, clean]) ?_
  rintro i ⟨hi, hj⟩
  simp only [V_seq, V_region, V_cond, W_nil, W_cons, effOp2, KN_seq, asB, effOp, effPure, pureV, binV, lenV, strip, lkT, ISt.app, opI, gO, gB, allB, gval, wrapG, dstOK, setD, Op.operands, Call.operands, List.append_toArray, reduceIte, reduceCtorEq, Nat.reduceLT, Nat.reduceEqDiff, ne_eq, not_false_eq_true, true_and, and_self, implies_true, List.nil_append, List.cons_append, tab43, hN, el]
  refine brW_some (fun h => ?_) (fun h => ?_)
  · have hi' : i < l.length := by simpa using h
    have g1 := getD_encTs hi'
    have hw := wr_succ hi' (by rw [maxLen_eq]; omega)
    have hst : insH (l.drop i) p = (decide (sideQ (tAt l i) p ≤ 0) && insH (l.drop (i + 1)) p) := all_step (d := (0, 0, 0)) hi'
    have hk : smH (tAt l i) := hs _ (by rw [tAt, List.getD, List.getElem?_eq_getElem hi']; exact List.getElem_mem hi')
    obtain ⟨k, hkk⟩ : ∃ k, tAt l i = k := ⟨_, rfl⟩
    rw [hkk] at g1 hst hk
    have hk2 : smH (k.1, k.2.1, k.2.2) := hk
    have hk3 : sideQ (k.1, k.2.1, k.2.2) p = sideQ k p := rfl
    cases hb : decide (sideQ k p ≤ 0) with
    | true =>
      rw [hb, Bool.true_and] at hst
      simp only [V_seq, V_skip, V_block, V_region, V_draw, V_cond, brW_false, drawW, WS_nil, pairsOf, W_nil, W_cons, effOp2, effOp3, WI_nil, WI_cons, KN_seq, KN_block, KN_back, dynOK, indB, farB, freshB, freshK, freshK1, heapy, asB, effOp, effPure, effCall, giveUp, hasAll, pureV, binV, partV, eltV, loadV, faddrV, iaddrV, ofC, strip, lkT, lkH, ISt.app, opI, gO, gB, allB, gval, wrapG, dstOK, setD, mentTm, mentHp, IV.ment, lendV, lendP, lent, lentP, idsV, idsL, lkHS, flat, clean, callArgs, callFn, allLent, Op.operands, Call.operands, List.append_toArray, reduceIte, reduceCtorEq, cond_true, cond_false, Bool.or_false, Bool.and_true, Bool.and_eq_true, Bool.not_true, Bool.not_false, Nat.reduceAdd, Nat.reduceLT, Nat.reduceLeDiff, Nat.reduceEqDiff, Nat.reduceBEq, Nat.add_zero, Nat.zero_add, ne_eq, not_false_eq_true, true_and, and_true, and_false, and_self, implies_true, forall_const, List.map_cons, List.map_nil, List.nil_append, List.cons_append, List.append_nil, List.getD_cons_zero, List.getD_cons_succ, List.length_cons, List.length_nil, List.take_succ_cons, List.take_zero, List.take_nil, List.drop_succ_cons, List.drop_zero, ex_clo, or_self, tab3, tab43, tab60, tab98, hN, pe, Int.toNat_natCast, lk_spec_inside_spec_sideOfRat, sp_spec_sideOfRat, el, g1, hw, hk2, hp, sgn_gt, hb]
      repeat refine And.intro (by first | omega | (simp; done) | (simp; omega)) ?_
      exact ⟨i + 1, id, ⟨by omega, hj.trans hst⟩, by simp only []; omega, by simp [SLe, SLe0, convTm, convHp, convB, conv, conv0, convL, lkT, lkH, clean]⟩
    | false =>
      rw [hb, Bool.false_and] at hst
      have hf := hj.trans hst
      simp only [V_seq, V_skip, V_ret, V_block, V_region, V_draw, V_cond, brW_true, drawW, WS_nil, pairsOf, W_nil, W_cons, effOp2, effOp3, WI_nil, WI_cons, KN_seq, KXr_nil, KXr_seq, KXr_block, KXr_back, QE, dynOK, indB, farB, freshB, freshK, freshK1, heapy, asB, effOp, effPure, effCall, giveUp, hasAll, pureV, binV, partV, eltV, loadV, faddrV, iaddrV, ofC, strip, lkT, lkH, ISt.app, opI, gO, gB, allB, gval, wrapG, dstOK, setD, mentTm, mentHp, IV.ment, lendV, lendP, lent, lentP, idsV, idsL, lkHS, flat, clean, callArgs, callFn, allLent, Gives, Ideal.Fin, conv, conv0, Op.operands, Call.operands, List.append_toArray, reduceIte, reduceCtorEq, cond_true, cond_false, Bool.or_false, Bool.and_true, Bool.and_eq_true, Bool.not_true, Bool.not_false, Nat.reduceAdd, Nat.reduceLT, Nat.reduceLeDiff, Nat.reduceEqDiff, Nat.reduceBEq, Nat.add_zero, Nat.zero_add, ne_eq, not_false_eq_true, true_and, and_true, and_false, and_self, implies_true, forall_const, List.map_cons, List.map_nil, List.nil_append, List.cons_append, List.append_nil, List.getD_cons_zero, List.getD_cons_succ, List.length_cons, List.length_nil, List.take_succ_cons, List.take_zero, List.take_nil, List.drop_succ_cons, List.drop_zero, ex_clo, or_self, tab3, tab43, tab60, tab98, hN, pe, Int.toNat_natCast, lk_spec_inside_spec_sideOfRat, sp_spec_sideOfRat, el, g1, hk2, hp, sgn_gt, hb, hf]
      repeat refine And.intro (by first | omega | (simp; done) | (simp; omega)) ?_
      omega
  · have hie : i = l.length := by simp at h; omega
    subst hie
    have hf : insH l p = true := by rw [hj]; simp [insH]
    simp only [V_seq, V_ret, V_exit, V_region, W_nil, W_cons, effOp2, KN_seq, KXr_nil, KXe_nil, KXe_seq, KXe_block, KXe_back, QE, effOp, effPure, pureV, ofC, strip, lkT, lkH, ISt.app, opI, gO, gB, allB, gval, wrapG, dstOK, setD, clean, Gives, Ideal.Fin, conv, conv0, Op.operands, reduceIte, reduceCtorEq, Nat.reduceLT, Nat.reduceEqDiff, and_self, implies_true, List.nil_append, List.cons_append, hN, hf]
def sp_spec_inside : PSpec := ⟨fun xs => match xs with | [.sl 3 les, .agg [.num .i64 p1, .num .i64 p2, .num .i64 p3, .num .i64 p4]] => isTs les ∧ ((fun (l : List Tr) (p : Qd) => ∀ k ∈ l, smH k) (toTs les) ((p1, p2), (p3, p4))) ∧ ((fun (l : List Tr) (p : Qd) => sqQ p) (toTs les) ((p1, p2), (p3, p4))) ∧ ((fun (l : List Tr) (p : Qd) => l.length ≤ 1000000) (toTs les) ((p1, p2), (p3, p4))) | _ => False, fun xs => match xs with | [.sl _ les, .agg [.num _ p1, .num _ p2, .num _ p3, .num _ p4]] => (fun (l : List Tr) (p : Qd) => .bool (insH l p)) (toTs les) ((p1, p2), (p3, p4)) | _ => .junk, false⟩
theorem gk_spec_inside : ∀ args, sp_spec_inside.pre args → ICall Try.prog 159 args (sp_spec_inside.val args) := by
  intro args h
  unfold sp_spec_inside at h ⊢; simp only at h ⊢; split at h
  · obtain ⟨h0, h1, h2, h3⟩ := h
    obtain ⟨l0, rfl⟩ := isT_ex h0
    simp only [toTs_enc] at *
    exact c_spec_inside _ ((_, _), (_, _)) h1 h2 h3
  · exact h.elim
theorem en_spec_inside : Enters Try.prog 159 := enters_of Try.func159 (by kernel_rfl) rfl


theorem abs_le (x A : Int) : decide (absI x ≤ A) = decide (-A ≤ x ∧ x ≤ A) := by
  rw [Bool.eq_iff_iff, decide_eq_true_iff, decide_eq_true_iff]
  unfold absI; split <;> omega
theorem sq_and (p : Qd) : sqB p = (decide (absI p.1.1 ≤ 1000 * p.1.2) && decide (absI p.2.1 ≤ 1000 * p.2.2)) := by
  rw [abs_le, abs_le]; rfl
theorem cand_meet {all : List Tr} {g h : Tr} (hb : ∀ k ∈ boxL, k ∈ all) (hd : denH g h ≠ 0) : candL all g h = if sqB (meetQ g h) && insH all (meetQ g h) then [meetQ g h] else [] := by
  have hp := sgT_pos hd
  have := cand_ask (x := sgT (decide (denH g h < 0)) (xH g h)) (y := sgT (decide (denH g h < 0)) (yH g h)) hp hb
  unfold candL
  simp only []
  rw [if_neg hd, ← this]
  rfl
theorem meet_good {g h : Tr} (hg : smH g) (hh : smH h) (hd : denH g h ≠ 0) : goodQ (meetQ g h) := by
  have hp := sgT_pos hd
  have b1 := sgT_bd (s := decide (denH g h < 0)) (den_bd hg hh)
  have b2 := sgT_bd (s := decide (denH g h < 0)) (x_bd hg hh)
  have b3 := sgT_bd (s := decide (denH g h < 0)) (y_bd hg hh)
  exact ⟨red_good hp (by omega) (by omega), red_good hp (by omega) (by omega)⟩
theorem meet_sq {g h : Tr} (hg : smH g) (hh : smH h) (hd : denH g h ≠ 0) (hs : sqB (meetQ g h) = true) : sqQ (meetQ g h) := by
  have hp := sgT_pos hd
  have b1 := sgT_bd (s := decide (denH g h < 0)) (den_bd hg hh)
  exact sq_red hp (by omega) hs
def cornF (all : List Tr) (i k : Nat) : List Qd := (rawAll all i ++ rawRow all i k).foldl addQ []
theorem cornF_step (all : List Tr) (i k : Nat) : cornF all i (k + 1) = (candL all (hAt all i) (hAt all k)).foldl addQ (cornF all i k) := by
  unfold cornF
  rw [row_step, ← List.append_assoc, List.foldl_append]
def g_spec_corners : List (Nat × PSpec) := [(155, sp_spec_box), (156, sp_spec_sameDirection), (157, sp_spec_meetLines), (158, sp_spec_abs), (159, sp_spec_inside), (160, sp_spec_addRatPoint)]
theorem gok_spec_corners : GOK Try.prog g_spec_corners := gok_cons gk_spec_box en_spec_box (gok_cons gk_spec_sameDirection en_spec_sameDirection (gok_cons gk_spec_meetLines en_spec_meetLines (gok_cons gk_spec_abs en_spec_abs (gok_cons gk_spec_inside en_spec_inside (gok_cons gk_spec_addRatPoint en_spec_addRatPoint (gok0))))))
theorem lk_spec_corners_spec_box : lkG g_spec_corners 155 = sp_spec_box := rfl
theorem lk_spec_corners_spec_sameDirection : lkG g_spec_corners 156 = sp_spec_sameDirection := rfl
theorem lk_spec_corners_spec_meetLines : lkG g_spec_corners 157 = sp_spec_meetLines := rfl
theorem lk_spec_corners_spec_abs : lkG g_spec_corners 158 = sp_spec_abs := rfl
theorem lk_spec_corners_spec_inside : lkG g_spec_corners 159 = sp_spec_inside := rfl
theorem lk_spec_corners_spec_addRatPoint : lkG g_spec_corners 160 = sp_spec_addRatPoint := rfl
def h_spec_corners : List (Nat × HSpec) := []
theorem hok_spec_corners : HOK Try.prog h_spec_corners := hok0
theorem c_spec_corners (l : List Tr) (hs : ∀ k ∈ l, smH k) (hsz : l.length ≤ 100) : ICall Try.prog 81 [.sl 3 (encTs l)] (.sl 4 (encQs (cornP l))) := by
  refine icall_V (G := g_spec_corners) (H := []) [(9, [(0, 16), (1, 16), (2, 16), (3, 16), (4, 16), (5, 16), (6, 16), (7, 16), (8, 16), (9, 16), (10, 16), (11, 16), (12, 16), (13, 16), (14, 16), (15, 16)]), (10, [(0, 16), (1, 16), (2, 16), (3, 16), (4, 16), (5, 16), (6, 16), (7, 16), (8, 16), (9, 16), (10, 16), (11, 16), (12, 16), (13, 16), (14, 16), (15, 16)]), (13, [(0, 3), (1, 3), (3, 4), (3, 5), (3, 6), (3, 7), (3, 10), (3, 11), (3, 12), (0, 13), (1, 13), (2, 13), (3, 13), (4, 13), (5, 13), (6, 13), (7, 13), (8, 13), (10, 13), (11, 13), (3, 14), (13, 14), (3, 15), (13, 15), (3, 16), (13, 16), (3, 17), (13, 17), (3, 18), (3, 19), (13, 19), (3, 20), (3, 21), (13, 21), (3, 22), (13, 22), (0, 23), (1, 23), (2, 23), (3, 23), (4, 23), (5, 23), (6, 23), (7, 23), (8, 23), (9, 23), (10, 23), (11, 23), (12, 23), (13, 23), (14, 23), (15, 23), (16, 23), (17, 23), (18, 23), (19, 23), (3, 24), (13, 24)])] tabOK mixed gok_spec_corners hok_spec_corners Try.func81 rfl Try.ntmps81 Try.results81 rfl (by kernel_rfl) fun F hN hlen => ?_
  have hs2 := frame_sm hs
  have hs3 := frame_at hs
  have hbx : ∀ k ∈ boxL, k ∈ l ++ boxL := fun k hk => by simp [hk]
  have hcp : cornP l = (rawAll (l ++ boxL) (l ++ boxL).length).foldl addQ [] := rfl
  have hal : (l ++ boxL).length ≤ 104 := by simp [boxL]; omega
  have hrg := raw_good hs3
  have hwg := row_good hs3
  have e0 := len_encTs l
  have e1 : encTs l ++ encTs boxL = encTs (l ++ boxL) := encTs_app l boxL
  obtain ⟨all, hall⟩ : ∃ all, l ++ boxL = all := ⟨_, rfl⟩
  rw [hall] at hcp hs2 hs3 hal hrg hwg hbx e1
  have el := len_encTs all
  have hx : ∃ k ty es, IBlk.arr 3 98 (encTs all) = IBlk.arr k ty es := ⟨_, _, _, rfl⟩
  have z4 : l.length + (encTs boxL).length = all.length := by rw [← hall, List.length_append, len_encTs]
  have tk : (encTs l).take l.length = encTs l := List.take_of_length_le (by omega)
  have zb : (encTs boxL).length = 4 := rfl
  simp only [V_seq, V_block, V_region, W_nil, W_cons, effOp2, KN_seq, effOp, effPure, effNew, effBuildSlice, effFrz, frz, tmpsOf, effAppend, effZeros, effCall, giveUp, hasAll, skipE, pureV, srcV, refId, ofC, strip, lkT, lkH, ISt.app, opI, gO, gB, allB, gval, wrapG, dstOK, setD, mentTm, mentHp, IV.ment, partsL, eltsI, idsL, lkHS, flat, clean, callArgs, callFn, allLent, enumT, Op.operands, reduceIte, reduceCtorEq, cond_true, cond_false, Bool.or_false, Bool.not_true, Nat.reduceMul, Nat.reduceLT, Nat.reduceLeDiff, Nat.reduceEqDiff, Nat.reduceBEq, Nat.zero_add, ne_eq, not_false_eq_true, true_and, and_true, and_self, implies_true, List.map_nil, List.nil_append, List.cons_append, List.append_nil, List.length_nil, List.take_nil, ex_clo, or_true, Bool.false_eq_true, tab43, tab51, tab60, tab98, hN, lk_spec_corners_spec_box, sp_spec_box, e0, e1, z4, tk]
  refine ⟨by omega, ⟨Nat.le_refl _, by omega⟩, ?_⟩
  refine V_loop (α := Nat) ⟨tabOK, mixed, gok_spec_corners, hok_spec_corners⟩ (by kernel_rfl) (fun i => i ≤ all.length) (fun i => ⟨[(5, .num .i64 i), (4, .sl 4 (encQs ((rawAll all i).foldl addQ []))), (3, .ref 14 0 all.length true)], [(14, some (.arr 3 98 (encTs all)))]⟩) (fun i => all.length - i) 0 id (Nat.zero_le _) (by simp [SLe, SLe0, convTm, convHp, convB, conv, conv0, lkT, lkH, clean, rawAll, encQs]) ?_
  intro i hi
  simp only [V_seq, V_region, V_cond, W_nil, W_cons, effOp2, KN_seq, asB, effOp, effPure, pureV, binV, lenV, strip, lkT, ISt.app, opI, gO, gB, allB, gval, wrapG, dstOK, setD, Op.operands, Call.operands, List.append_toArray, reduceIte, reduceCtorEq, Nat.reduceLT, Nat.reduceEqDiff, ne_eq, not_false_eq_true, true_and, and_self, implies_true, List.nil_append, List.cons_append, tab43, hN]
  refine brW_some (fun h => ?_) (fun h => ?_)
  · have hi' : i < all.length := by simpa using h
    have g0 := getD_encTs hi'
    have hw := wr_succ hi' (by rw [maxLen_eq]; omega)
    have hgs : smH (tAt all i) := hs3 i
    obtain ⟨g, hg⟩ : ∃ g, tAt all i = g := ⟨_, rfl⟩
    have hg2 : hAt all i = g := hg
    rw [hg] at g0 hgs
    simp only [V_seq, V_skip, V_block, V_region, W_nil, W_cons, effOp2, KN_seq, effOp, effPure, pureV, ofC, strip, ISt.app, opI, gO, gB, allB, gval, wrapG, dstOK, setD, Op.operands, Nat.reduceLT, true_and, and_self, implies_true, List.nil_append, List.cons_append, hN]
    refine V_loop (α := Nat) ⟨tabOK, mixed, gok_spec_corners, hok_spec_corners⟩ (by kernel_rfl) (fun k => k ≤ i) (fun k => ⟨[(6, .num .i64 k), (5, .num .i64 i), (4, .sl 4 (encQs (cornF all i k))), (3, .ref 14 0 all.length true)], [(14, some (.arr 3 98 (encTs all)))]⟩) (fun k => i - k) 0 id (Nat.zero_le _) (by simp [SLe, SLe0, convTm, convHp, convB, conv, conv0, lkT, lkH, clean, cornF, rawRow]) ?_
    intro k hk
    have hst := cornF_step all i k
    rw [hg2] at hst
    have hgf : ∀ q ∈ cornF all i k, goodQ q := by
      intro q hq
      rcases (mem_foldQ _ _).1 hq with h | h
      · rcases List.mem_append.1 h with h | h
        · exact hrg i q h
        · exact hwg i k q h
      · cases h
    have hlf : (cornF all i k).length ≤ 100000 := by
      have h1 := fold_len (rawAll all i ++ rawRow all i k) []
      have h2 := raw_len all i
      have h3 := row_len all i k
      have h4 : i * i ≤ 104 * 104 := Nat.mul_le_mul (by omega) (by omega)
      rw [List.length_append, List.length_nil] at h1
      unfold cornF; omega
    have hfin : cornF all i i = (rawAll all (i + 1)).foldl addQ [] := rfl
    obtain ⟨out, hout⟩ : ∃ out, cornF all i k = out := ⟨_, rfl⟩
    rw [hout] at hst hgf hlf ⊢
    simp only [V_seq, V_region, V_cond, W_nil, W_cons, effOp2, KN_seq, asB, effOp, effPure, pureV, binV, strip, lkT, ISt.app, opI, gO, gB, allB, gval, wrapG, dstOK, setD, Op.operands, reduceIte, Nat.reduceLT, Nat.reduceEqDiff, true_and, and_self, implies_true, List.nil_append, List.cons_append, hN]
    refine brW_some (fun h => ?_) (fun h => ?_)
    · have hk' : k < i := by simpa using h
      have g1 := getD_encTs (l := all) (i := k) (by omega)
      have hw2 := wr_succ hk' (by rw [maxLen_eq]; omega)
      have hhs : smH (tAt all k) := hs3 k
      obtain ⟨h0, hh0⟩ : ∃ h0, tAt all k = h0 := ⟨_, rfl⟩
      have hh2 : hAt all k = h0 := hh0
      rw [hh0] at g1 hhs
      rw [hh2] at hst
      cases dz : (denH g h0 == 0) with
      | true =>
        have hz : denH g h0 = 0 := by simpa using dz
        rw [cand_den hz] at hst
        simp only [V_seq, V_skip, V_ret, V_exit, V_block, V_region, V_draw, V_cond, brW_true, drawW, WS_nil, pairsOf, W_nil, W_cons, effOp2, effOp3, WI_nil, WI_cons, KN_seq, KN_block, KN_back, KXr_nil, KXe_nil, KXe_seq, KXe_block, KXe_back, QE, dynOK, indB, farB, seeB, see, isStore, freshB, freshK, freshK1, heapy, asB, effOp, effPure, effNew, effAlloc, effStore, effCall, giveUp, hasAll, skipE, pureV, storeV, binV, partV, eltV, loadV, faddrV, iaddrV, over, solid, buildL, IV.cells, ofC, strip, lkT, lkH, ISt.app, opI, gO, gB, allB, gval, wrapG, dstOK, setD, mentTm, mentHp, IV.ment, IV.mentL, oneI, lendV, lendP, lent, lentP, idsV, idsL, lkHS, flat, clean, callArgs, callFn, allLent, Gives, Ideal.Fin, conv, conv0, Op.operands, reduceIte, reduceCtorEq, cond_true, cond_false, Bool.or_false, Bool.or_true, Bool.and_true, Bool.and_false, Bool.and_eq_true, Bool.not_true, Bool.not_false, Nat.reduceAdd, Nat.reduceLT, Nat.reduceLeDiff, Nat.reduceEqDiff, Nat.reduceBEq, Nat.add_zero, Nat.zero_add, ne_eq, not_false_eq_true, beq_self_eq_true, true_and, and_true, and_false, and_self, implies_true, forall_const, List.map_cons, List.map_nil, List.nil_append, List.cons_append, List.append_nil, List.all_cons, List.all_nil, Option.some.injEq, List.getD_cons_zero, List.getD_cons_succ, List.length_cons, List.length_nil, List.take_succ_cons, List.take_zero, List.take_nil, List.drop_succ_cons, List.drop_zero, List.drop_nil, ex_clo, or_self, tab3, tab43, tab98, tab143, hN, pe, Int.toNat_natCast, lk_spec_corners_spec_sameDirection, sp_spec_sameDirection, el, hx, g0, g1, hw2, hgs, hhs, dz]
        repeat refine And.intro (by first | omega | (simp; done) | (simp; omega)) ?_
        refine ⟨k + 1, id, by simp only []; omega, by simp only []; omega, ?_⟩
        simp only [hst]
        exact by simp [SLe, SLe0, convTm, convHp, convB, conv, conv0, lkT, lkH, clean]
      | false =>
        have hz : denH g h0 ≠ 0 := by simpa using dz
        rw [cand_meet hbx hz] at hst
        have hgp := meet_good hgs hhs hz
        have hsq := meet_sq hgs hhs hz
        obtain ⟨p, hp⟩ : ∃ p, meetQ g h0 = p := ⟨_, rfl⟩
        rw [hp] at hst hgp hsq
        have a1 : -9223372036854775807 ≤ p.1.1 ∧ p.1.1 ≤ 9223372036854775807 := by have := hgp.1.2.2.2; omega
        have a2 : -9223372036854775807 ≤ p.2.1 ∧ p.2.1 ≤ 9223372036854775807 := by have := hgp.2.2.2.2; omega
        have u1 : IntKind.i64.wrap (1000 * p.1.2) = 1000 * p.1.2 := by have h1 := hgp.1.1; have h2 := hgp.1.2.1; exact wr (by omega) (by omega)
        have u2 : IntKind.i64.wrap (1000 * p.2.2) = 1000 * p.2.2 := by have h1 := hgp.2.1; have h2 := hgp.2.2.1; exact wr (by omega) (by omega)
        have hsb := sq_and p
        have hzz : all.length ≤ 1000000 := by omega
        cases c1 : decide (absI p.1.1 ≤ 1000 * p.1.2) with
        | false =>
          rw [c1, Bool.false_and] at hsb
          rw [hsb, Bool.false_and, if_neg (by decide)] at hst
          simp only [V_seq, V_skip, V_block, V_region, V_draw, V_cond, brW_false, drawW, WS_nil, pairsOf, W_nil, W_cons, effOp2, effOp3, WI_nil, WI_cons, KN_seq, KN_block, KN_back, dynOK, indB, farB, seeB, see, isStore, freshB, freshK, freshK1, heapy, asB, effOp, effPure, effPick, effNew, effAlloc, effStore, effCall, giveUp, hasAll, Option.isSome_some, skipE, pureV, pickV, storeV, binV, partV, eltV, loadV, faddrV, iaddrV, over, solid, buildL, IV.cells, ofC, strip, lkT, lkH, ISt.app, opI, gO, gB, allB, gval, wrapG, dstOK, setD, mentTm, mentHp, IV.ment, IV.mentL, oneI, lendV, lendP, lent, lentP, idsV, idsL, lkHS, flat, flatL, clean, cleanL, callArgs, callFn, allLent, IBlk.shape, Op.operands, Call.operands, List.append_toArray, reduceIte, reduceCtorEq, cond_true, cond_false, Bool.or_false, Bool.or_true, Bool.and_true, Bool.and_false, Bool.and_eq_true, Bool.not_true, Bool.not_false, Nat.reduceAdd, Nat.reduceLT, Nat.reduceLeDiff, Nat.reduceEqDiff, Nat.reduceBEq, Nat.add_zero, Nat.zero_add, ne_eq, not_false_eq_true, beq_self_eq_true, true_and, and_true, false_and, and_false, and_self, false_implies, implies_true, forall_const, List.map_cons, List.map_nil, List.nil_append, List.cons_append, List.append_nil, List.all_cons, List.all_nil, Option.some.injEq, Option.map_some, Option.bind_some, List.getElem?_cons_zero, List.getElem?_cons_succ, List.getD_cons_zero, List.getD_cons_succ, List.length_cons, List.length_nil, List.take_succ_cons, List.take_zero, List.take_nil, List.drop_succ_cons, List.drop_zero, List.drop_nil, ex_clo, bft, or_self, Bool.false_eq_true, tab3, tab43, tab58, tab60, tab98, tab143, hN, pe, Int.toNat_natCast, encQ, lk_spec_corners_spec_sameDirection, lk_spec_corners_spec_meetLines, lk_spec_corners_spec_abs, lk_spec_corners_spec_inside, sp_spec_sameDirection, sp_spec_meetLines, sp_spec_abs, sp_spec_inside, el, hx, g0, g1, hw2, hgs, hhs, dz, hz, hp, a1, a2, u1, u2, c1]
          repeat refine And.intro (by first | omega | (simp; done) | (simp; omega)) ?_
          refine ⟨k + 1, id, by simp only []; omega, by simp only []; omega, ?_⟩
          simp only [hst]
          exact by simp [SLe, SLe0, convTm, convHp, convB, conv, conv0, lkT, lkH, clean]
        | true =>
          cases c2 : decide (absI p.2.1 ≤ 1000 * p.2.2) with
          | false =>
            rw [c2, Bool.and_false] at hsb
            rw [hsb, Bool.false_and, if_neg (by decide)] at hst
            simp only [V_seq, V_skip, V_block, V_region, V_draw, V_cond, brW_false, drawW, WS_nil, pairsOf, W_nil, W_cons, effOp2, effOp3, WI_nil, WI_cons, KN_seq, KN_block, KN_back, dynOK, indB, farB, seeB, see, isStore, freshB, freshK, freshK1, heapy, asB, effOp, effPure, effPick, effNew, effAlloc, effStore, effCall, giveUp, hasAll, Option.isSome_some, skipE, pureV, pickV, storeV, binV, partV, eltV, loadV, faddrV, iaddrV, over, solid, buildL, IV.cells, ofC, strip, lkT, lkH, ISt.app, opI, gO, gB, allB, gval, wrapG, dstOK, setD, mentTm, mentHp, IV.ment, IV.mentL, oneI, lendV, lendP, lent, lentP, idsV, idsL, lkHS, flat, flatL, clean, cleanL, callArgs, callFn, allLent, IBlk.shape, Op.operands, Call.operands, List.append_toArray, reduceIte, reduceCtorEq, cond_true, cond_false, Bool.or_false, Bool.or_true, Bool.and_true, Bool.and_false, Bool.and_eq_true, Bool.not_true, Bool.not_false, Nat.reduceAdd, Nat.reduceLT, Nat.reduceLeDiff, Nat.reduceEqDiff, Nat.reduceBEq, Nat.add_zero, Nat.zero_add, ne_eq, not_false_eq_true, beq_self_eq_true, true_and, and_true, false_and, and_false, and_self, false_implies, implies_true, forall_const, List.map_cons, List.map_nil, List.nil_append, List.cons_append, List.append_nil, List.all_cons, List.all_nil, Option.some.injEq, Option.map_some, Option.bind_some, List.getElem?_cons_zero, List.getElem?_cons_succ, List.getD_cons_zero, List.getD_cons_succ, List.length_cons, List.length_nil, List.take_succ_cons, List.take_zero, List.take_nil, List.drop_succ_cons, List.drop_zero, List.drop_nil, ex_clo, bft, or_self, Bool.true_eq_false, Bool.false_eq_true, tab3, tab43, tab58, tab60, tab98, tab143, hN, pe, Int.toNat_natCast, encQ, lk_spec_corners_spec_sameDirection, lk_spec_corners_spec_meetLines, lk_spec_corners_spec_abs, lk_spec_corners_spec_inside, sp_spec_sameDirection, sp_spec_meetLines, sp_spec_abs, sp_spec_inside, el, hx, g0, g1, hw2, hgs, hhs, dz, hz, hp, a1, a2, u1, u2, c1, c2]
            repeat refine And.intro (by first | omega | (simp; done) | (simp; omega)) ?_
            refine ⟨k + 1, id, by simp only []; omega, by simp only []; omega, ?_⟩
            simp only [hst]
            exact by simp [SLe, SLe0, convTm, convHp, convB, conv, conv0, lkT, lkH, clean]
          | true =>
            rw [c1, c2, Bool.true_and] at hsb
            rw [hsb, Bool.true_and] at hst
            have hsq := hsq hsb
            cases c3 : insH all p with
            | false =>
              rw [c3, if_neg (by decide)] at hst
              simp only [V_seq, V_skip, V_block, V_region, V_draw, V_cond, brW_false, drawW, WS_nil, pairsOf, W_nil, W_cons, effOp2, effOp3, WI_nil, WI_cons, KN_seq, KN_block, KN_back, dynOK, indB, farB, seeB, see, isStore, freshB, freshK, freshK1, heapy, asB, effOp, effPure, effPick, effNew, effAlloc, effStore, effCall, giveUp, hasAll, Option.isSome_some, skipE, pureV, pickV, storeV, binV, partV, eltV, loadV, faddrV, iaddrV, over, solid, buildL, IV.cells, ofC, strip, lkT, lkH, ISt.app, opI, gO, gB, allB, gval, wrapG, dstOK, setD, mentTm, mentHp, IV.ment, IV.mentL, oneI, lendV, lendP, lent, lentP, idsV, idsL, lkHS, flat, flatL, clean, cleanL, callArgs, callFn, allLent, IBlk.shape, Op.operands, Call.operands, List.append_toArray, reduceIte, reduceCtorEq, cond_true, cond_false, Bool.or_false, Bool.or_true, Bool.and_true, Bool.and_false, Bool.and_eq_true, Bool.not_true, Bool.not_false, Nat.reduceAdd, Nat.reduceLT, Nat.reduceLeDiff, Nat.reduceEqDiff, Nat.reduceBEq, Nat.add_zero, Nat.zero_add, ne_eq, not_false_eq_true, beq_self_eq_true, true_and, and_true, and_false, and_self, implies_true, forall_const, List.map_cons, List.map_nil, List.nil_append, List.cons_append, List.append_nil, List.all_cons, List.all_nil, Option.some.injEq, Option.map_some, Option.bind_some, List.getElem?_cons_zero, List.getElem?_cons_succ, List.getD_cons_zero, List.getD_cons_succ, List.length_cons, List.length_nil, List.take_succ_cons, List.take_zero, List.take_nil, List.drop_succ_cons, List.drop_zero, List.drop_nil, ex_clo, or_self, Bool.true_eq_false, tab3, tab43, tab58, tab60, tab98, tab143, hN, pe, Int.toNat_natCast, encQ, isTs_enc, toTs_enc, lk_spec_corners_spec_sameDirection, lk_spec_corners_spec_meetLines, lk_spec_corners_spec_abs, lk_spec_corners_spec_inside, sp_spec_sameDirection, sp_spec_meetLines, sp_spec_abs, sp_spec_inside, el, hx, g0, g1, hw2, hgs, hhs, dz, hz, hp, a1, a2, u1, u2, c1, c2, hsq, hzz, c3, take_encTs]
              repeat refine And.intro (by first | omega | (simp; done) | (simp; omega)) ?_
              refine ⟨⟨Nat.le_refl _, hs2⟩, k + 1, id, by simp only []; omega, by simp only []; omega, ?_⟩
              simp only [hst]
              exact by simp [SLe, SLe0, convTm, convHp, convB, conv, conv0, lkT, lkH, clean]
            | true =>
              rw [c3, if_pos rfl] at hst
              simp only [V_seq, V_skip, V_block, V_region, V_draw, V_cond, brW_true, brW_false, drawW, WS_nil, pairsOf, W_nil, W_cons, effOp2, effOp3, WI_nil, WI_cons, KN_seq, KN_block, KN_back, dynOK, indB, farB, seeB, see, isStore, freshB, freshK, freshK1, heapy, asB, effOp, effPure, effPick, effNew, effAlloc, effStore, effCall, giveUp, hasAll, Option.isSome_some, skipE, pureV, pickV, storeV, binV, partV, eltV, loadV, faddrV, iaddrV, over, solid, buildL, IV.cells, ofC, strip, lkT, lkH, ISt.app, opI, gO, gB, allB, gval, wrapG, dstOK, setD, mentTm, mentHp, IV.ment, IV.mentL, oneI, lendV, lendP, lent, lentP, idsV, idsL, lkHS, flat, flatL, clean, cleanL, callArgs, callFn, allLent, IBlk.shape, Op.operands, Call.operands, List.append_toArray, reduceIte, reduceCtorEq, cond_true, cond_false, Bool.or_false, Bool.or_true, Bool.and_true, Bool.and_false, Bool.and_eq_true, Bool.not_true, Bool.not_false, Nat.reduceAdd, Nat.reduceLT, Nat.reduceLeDiff, Nat.reduceEqDiff, Nat.reduceBEq, Nat.add_zero, Nat.zero_add, ne_eq, not_false_eq_true, beq_self_eq_true, true_and, and_true, and_false, and_self, implies_true, forall_const, List.map_cons, List.map_nil, List.nil_append, List.cons_append, List.append_nil, List.all_cons, List.all_nil, Option.some.injEq, Option.map_some, Option.bind_some, List.getElem?_cons_zero, List.getElem?_cons_succ, List.getD_cons_zero, List.getD_cons_succ, List.length_cons, List.length_nil, List.take_succ_cons, List.take_zero, List.take_nil, List.drop_succ_cons, List.drop_zero, List.drop_nil, ex_clo, or_true, or_self, Bool.true_eq_false, Bool.false_eq_true, tab3, tab43, tab58, tab60, tab98, tab143, hN, pe, Int.toNat_natCast, encQ, isTs_enc, toTs_enc, isQs_enc, toQs_enc, lk_spec_corners_spec_sameDirection, lk_spec_corners_spec_meetLines, lk_spec_corners_spec_abs, lk_spec_corners_spec_inside, lk_spec_corners_spec_addRatPoint, sp_spec_sameDirection, sp_spec_meetLines, sp_spec_abs, sp_spec_inside, sp_spec_addRatPoint, el, hx, g0, g1, hw2, hgs, hhs, dz, hz, hp, a1, a2, u1, u2, c1, c2, hsq, hzz, c3, hgp, hlf, take_encTs]
              repeat refine And.intro (by first | omega | (simp; done) | (simp; omega)) ?_
              refine ⟨⟨Nat.le_refl _, hs2⟩, hgf, k + 1, id, by simp only []; omega, by simp only []; omega, ?_⟩
              simp only [hst]
              exact by simp [SLe, SLe0, convTm, convHp, convB, conv, conv0, lkT, lkH, clean]
    · have hke : k = i := by simp at h; omega
      subst hke
      rw [← hout, hfin]
      simp only [V_seq, V_ret, V_exit, V_region, W_nil, W_cons, effOp2, KN_seq, KN_block, KN_back, KXr_nil, KXe_nil, KXe_seq, KXe_block, KXe_back, QE, effOp, effPure, pureV, binV, ofC, strip, lkT, lkH, ISt.app, opI, gO, gB, allB, gval, wrapG, dstOK, setD, Gives, Ideal.Fin, conv, conv0, Op.operands, reduceIte, reduceCtorEq, Nat.reduceLT, Nat.reduceEqDiff, true_and, and_self, implies_true, List.nil_append, List.cons_append, hN, hw]
      exact ⟨k + 1, id, by simp only []; omega, by simp only []; omega, by simp [SLe, SLe0, convTm, convHp, convB, conv, conv0, lkT, lkH, clean]⟩
  · have hie : i = all.length := by simp at h; omega
    subst hie
    rw [← hcp]
    simp only [V_seq, V_ret, V_exit, V_region, W_nil, W_cons, effOp2, KN_seq, KXr_nil, KXe_nil, KXe_seq, KXe_block, KXe_back, QE, effOp, effPure, pureV, strip, lkT, lkH, ISt.app, opI, gO, gB, allB, gval, wrapG, dstOK, setD, Gives, Ideal.Fin, conv, conv0, Op.operands, reduceIte, Nat.reduceLT, Nat.reduceEqDiff, and_self, implies_true, List.nil_append, List.cons_append, hN]
def sp_spec_corners : PSpec := ⟨fun xs => match xs with | [.sl 3 les] => isTs les ∧ ((fun (l : List Tr) => ∀ k ∈ l, smH k) (toTs les)) ∧ ((fun (l : List Tr) => l.length ≤ 100) (toTs les)) | _ => False, fun xs => match xs with | [.sl _ les] => (fun (l : List Tr) => .sl 4 (encQs (cornP l))) (toTs les) | _ => .junk, false⟩
theorem gk_spec_corners : ∀ args, sp_spec_corners.pre args → ICall Try.prog 81 args (sp_spec_corners.val args) := by
  intro args h
  unfold sp_spec_corners at h ⊢; simp only at h ⊢; split at h
  · obtain ⟨h0, h1, h2⟩ := h
    obtain ⟨l0, rfl⟩ := isT_ex h0
    simp only [toTs_enc] at *
    exact c_spec_corners _ h1 h2
  · exact h.elim
theorem en_spec_corners : Enters Try.prog 81 := enters_of Try.func81 (by kernel_rfl) rfl

end Go.Proofs.Ytemppebemahkoaa
