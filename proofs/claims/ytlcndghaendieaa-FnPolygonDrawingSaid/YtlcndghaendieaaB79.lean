/- Drawings: the program and the reference. -/
import Derived.Test.YtlcndghaendieaaBV
import Derived.Test.YtlcndghaendieaaBPr
import Derived.Test.YtlcndghaendieaaPl21
set_option linter.unusedVariables false
set_option linter.unusedSimpArgs false
set_option maxHeartbeats 1600000
set_option maxRecDepth 100000
namespace Go.Proofs.Ytlcndghaendieaa
open Go Go.Ideal Go.Pl Go.Sort

/-- Have two segments an end in common? -/
def shE (s t : Qd) : Bool := s.1 == t.1 || (s.1 == t.2 || (s.2 == t.1 || s.2 == t.2))
/-- Do two segments meet where a drawing must not? -/
def badS (s t : Qd) : Bool := relP s t != 0 && (relP s t != 1 || !shE s t)
def drB (l : List Qd) : Bool := okSs l && !((prs l.length l.length).any fun p => badS (qAt l p.1.toNat) (qAt l p.2.toNat))
theorem dr_any {l : List Qd} : ((prs l.length l.length).any fun p => badS (qAt l p.1.toNat) (qAt l p.2.toNat)) = false ↔ ∀ i j : Nat, i < j → j < l.length → badS (qAt l i) (qAt l j) = false := by
  rw [List.any_eq_false]
  constructor
  · intro h i j h1 h2
    have := h _ (prs_all h1 h2 l.length (by omega) (Nat.le_refl _))
    simpa using this
  · intro h p hp
    obtain ⟨i, j, h1, h2, rfl⟩ := prs_mem (Nat.le_refl _) hp
    simpa using h i j h1 h2
theorem shE_iff {s t : Qd} : shE s t = true ↔ ∃ p, (p = s.1 ∨ p = s.2) ∧ (p = t.1 ∨ p = t.2) := by
  simp only [shE, Bool.or_eq_true, beq_iff_eq]
  constructor
  · rintro (h | h | h | h)
    · exact ⟨_, .inl rfl, .inl h⟩
    · exact ⟨_, .inl rfl, .inr h⟩
    · exact ⟨_, .inr rfl, .inl h⟩
    · exact ⟨_, .inr rfl, .inr h⟩
  · rintro ⟨p, rfl | rfl, h | h⟩
    · exact .inl h
    · exact .inr (.inl h)
    · exact .inr (.inr (.inl h))
    · exact .inr (.inr (.inr h))
theorem onS_end {s : Qd} {p : Pt} (h : p = s.1 ∨ p = s.2) : onS s p = true := by
  rcases h with rfl | rfl
  · exact onS_1 s
  · exact onS_2 s
theorem mem_com {s t : Qd} {x : Pt} : x ∈ comP s t ↔ ((x = s.1 ∨ x = s.2) ∧ onS t x = true) ∨ ((x = t.1 ∨ x = t.2) ∧ onS s x = true ∧ ¬(x = s.1 ∨ x = s.2)) := by
  rw [comP]
  simp only [List.mem_append, List.mem_filter, List.mem_cons, List.not_mem_nil, or_false, Bool.and_eq_true, Bool.not_eq_true', Bool.or_eq_false_iff, beq_eq_false_iff_ne, not_or]
/-- What the program finds bad. -/
def badPr (s t : Qd) : Bool := match comP s t with
  | [] => relP s t != 0
  | [p] => !((p == s.1 || p == s.2) && (p == t.1 || p == t.2))
  | _ => true
theorem bad_same {s t : Qd} (hs : s.1 ≠ s.2) (ht : t.1 ≠ t.2) : badPr s t = badS s t := by
  have hl := com_ends hs ht
  unfold badPr
  match hc : comP s t with
  | [] =>
    rw [hc] at hl
    have hl2 : (endsP s t).length = 0 := hl.symm
    have h1 : relP s t ≠ 1 := by
      unfold relP
      rw [if_neg (by omega), if_neg (by omega)]
      split <;> decide
    have h2 : (relP s t != 1) = true := by simpa using h1
    rw [badS, h2, Bool.true_or, Bool.and_true]
  | [p] =>
    rw [hc] at hl
    have hl2 : (endsP s t).length = 1 := hl.symm
    have h1 : relP s t = 1 := by
      unfold relP
      rw [if_neg (by omega), if_pos hl2]
    rw [badS, h1]
    have hp : p ∈ comP s t := by rw [hc]; simp
    have key : ((p == s.1 || p == s.2) && (p == t.1 || p == t.2)) = shE s t := by
      rw [Bool.eq_iff_iff, shE_iff]
      simp only [Bool.and_eq_true, Bool.or_eq_true, beq_iff_eq]
      constructor
      · rintro ⟨a, b⟩; exact ⟨p, a, b⟩
      · rintro ⟨x, a, b⟩
        have hx : x ∈ comP s t := mem_com.2 (.inl ⟨a, onS_end b⟩)
        rw [hc] at hx
        have : x = p := by simpa using hx
        subst this; exact ⟨a, b⟩
    simp only [key]
    cases shE s t <;> rfl
  | p :: q :: r =>
    rw [hc] at hl
    have hl2 : 1 < (endsP s t).length := by rw [← hl]; simp
    have h1 : relP s t = 3 := by
      unfold relP
      rw [if_pos hl2]
    rw [badS, h1]; rfl
def g_impl_IsDrawing_1 : List (Nat × PSpec) := [(42, sp_impl_common), (43, sp_impl_relation), (44, sp_impl_Segment_atEnds)]
theorem gok_impl_IsDrawing_1 : GOK Try.prog g_impl_IsDrawing_1 := gok_cons gk_impl_common en_impl_common (gok_cons gk_impl_relation en_impl_relation (gok_cons gk_impl_Segment_atEnds en_impl_Segment_atEnds (gok0)))
theorem lk_impl_IsDrawing_1_impl_common : lkG g_impl_IsDrawing_1 42 = sp_impl_common := rfl
theorem lk_impl_IsDrawing_1_impl_relation : lkG g_impl_IsDrawing_1 43 = sp_impl_relation := rfl
theorem lk_impl_IsDrawing_1_impl_Segment_atEnds : lkG g_impl_IsDrawing_1 44 = sp_impl_Segment_atEnds := rfl
def h_impl_IsDrawing_1 : List (Nat × HSpec) := []
theorem hok_impl_IsDrawing_1 : HOK Try.prog h_impl_IsDrawing_1 := hok0
theorem c_impl_IsDrawing_1 (p : Pt) (l : List Qd) (h0 : 0 ≤ p.1 ∧ p.1 < (l.length : Int)) (h1 : 0 ≤ p.2 ∧ p.2 < (l.length : Int)) (hs : okSs l = true) : HCall Try.prog 41 [encP p, .ptr 1000 0] (sm ([(1000, .box 26 [.sl 4 (encQs l)])])) (.bool (badS (qAt l p.1.toNat) (qAt l p.2.toNat))) (sm ([(1000, .box 26 [.sl 4 (encQs l)])])) := by
  refine hcall_V (G := g_impl_IsDrawing_1) (H := []) [(1, [(0, 10), (1, 10), (2, 10), (3, 10), (4, 10), (5, 10), (6, 10), (7, 10), (8, 10), (9, 10), (0, 11), (1, 11), (2, 11), (3, 11), (4, 11), (5, 11), (6, 11), (7, 11), (8, 11), (9, 11), (10, 11), (5, 12), (6, 12), (7, 12), (8, 12), (9, 12)]), (7, [(2, 5), (3, 5)])] tabOK mixed gok_impl_IsDrawing_1 hok_impl_IsDrawing_1 Try.func41 rfl Try.ntmps41 Try.results41 rfl (by kernel_rfl) fun F hN hlen => ?_
  simp only [sm]
  obtain ⟨p1, p2⟩ := p
  obtain ⟨i, rfl⟩ := Int.eq_ofNat_of_zero_le h0.1
  obtain ⟨j, rfl⟩ := Int.eq_ofNat_of_zero_le h1.1
  have hi : i < l.length := by omega
  have hj : j < l.length := by omega
  have el := len_encQs l
  have g0 := getD_encQs hi
  have g1 := getD_encQs hj
  have vi := okSs_at hs hi
  have vj := okSs_at hs hj
  obtain ⟨si, _, _, ni⟩ := vSg_facts vi
  obtain ⟨sj, _, _, nj⟩ := vSg_facts vj
  have hb := bad_same ni nj
  have ti : Int.toNat (i : Int) = i := Int.toNat_natCast i
  have tj : Int.toNat (j : Int) = j := Int.toNat_natCast j
  have ec := len_encPs (comP (qAt l i) (qAt l j))
  have tn0 : Int.toNat 0 = 0 := rfl
  simp only [ti, tj]
  generalize qAt l i = s at *
  generalize qAt l j = t at *
  unfold badPr at hb
  match hc : comP s t with
  | [] =>
    rw [hc] at hb ec
    have e0 : encPs [] = [] := rfl
    have c0 : (((0 : Nat) : Int) == 0) = true := rfl
    have hb2 : (relP s t != 0) = badS s t := hb
    simp only [V_seq, V_ret, V_block, V_region, V_draw, V_cond, brW_true, drawW, WS_nil, pairsOf, W_nil, W_cons, effOp2, effOp3, WI_nil, WI_cons, KN_seq, KXr_nil, KXr_seq, KXr_block, QE, dynOK, indB, farB, seeB, see, isStore, freshB, freshK, freshK1, ownId, heapy, asB, effOp, effPure, effNew, effAlloc, effBox, effStore, effCall, giveUp, hasAll, skipE, pureV, storeV, binV, partV, eltV, loadV, faddrV, iaddrV, lenV, over, solid, IV.cells, ofC, strip, lkT, lkH, ISt.app, opI, gO, gB, allB, gval, wrapG, dstOK, setD, mentTm, mentHp, IV.ment, IV.mentL, oneI, lendV, lendP, lent, lentP, idsV, idsL, lkHS, flat, clean, callArgs, callFn, allLent, enumT, conv, conv0, IBlk.shape, Op.operands, Call.operands, List.append_toArray, reduceIte, reduceCtorEq, cond_true, cond_false, Bool.or_false, Bool.or_true, Bool.and_true, Bool.and_false, Bool.and_eq_true, Bool.not_true, Bool.not_false, Nat.reduceAdd, Nat.reduceMul, Nat.reduceLT, Nat.reduceLeDiff, Nat.reduceEqDiff, Nat.reduceBEq, Nat.add_zero, Nat.zero_add, ne_eq, not_false_eq_true, beq_self_eq_true, true_and, and_true, and_false, and_self, false_implies, implies_true, forall_const, List.map_cons, List.map_nil, List.nil_append, List.cons_append, List.append_nil, List.all_cons, List.all_nil, Option.map_some, List.getD_cons_zero, List.getD_cons_succ, List.length_cons, List.length_nil, List.take_succ_cons, List.take_zero, List.take_nil, List.drop_succ_cons, List.drop_zero, List.drop_nil, ex_clo, or_true, or_self, Bool.false_eq_true, tab3, tab23, tab26, tab30, tab59, hN, pe, encP, FinH, resA, resV, SLe, SLe0, convTm, convHp, convB, lk_impl_IsDrawing_1_impl_common, lk_impl_IsDrawing_1_impl_relation, sp_impl_common, sp_impl_relation, el, g0, g1, si, sj, ni, nj, ti, tj, hc, e0, c0, hb2]
    exact ⟨⟨by omega, by omega⟩, ⟨by omega, by omega⟩, id, by simp [convL, conv, conv0]⟩
  | [p] =>
    rw [hc] at hb ec
    have e0 : encPs [p] = [.agg [.num .i64 p.1, .num .i64 p.2]] := rfl
    have c0 : (((1 : Nat) : Int) == 0) = false := rfl
    have c1 : (((1 : Nat) : Int) == 1) = true := rfl
    have hb2 : (!((p == s.1 || p == s.2) && (p == t.1 || p == t.2))) = badS s t := hb
    simp only [V_seq, V_ret, V_block, V_region, V_draw, V_cond, brW_true, brW_false, drawW, WS_nil, WS_cons, pairsOf, W_nil, W_cons, effOp2, effOp3, WI_nil, WI_cons, KN_seq, KXr_nil, KXr_seq, KXr_block, QE, dynOK, indB, farB, seeB, see, isStore, freshB, freshK, freshK1, ownId, heapy, asB, effOp, effPure, effNew, effAlloc, effBox, effStore, effCall, giveUp, hasAll, skipE, pureV, storeV, binV, partV, eltV, loadV, faddrV, iaddrV, lenV, over, solid, IV.cells, ofC, strip, lkT, lkH, ISt.app, opI, gO, gB, allB, gval, wrapG, dstOK, setD, mentTm, mentHp, IV.ment, IV.mentL, oneI, lendV, lendP, lent, lentP, idsV, idsL, lkHS, flat, clean, callArgs, callFn, allLent, enumT, conv, conv0, IBlk.shape, Op.operands, Call.operands, List.append_toArray, reduceIte, reduceCtorEq, cond_true, cond_false, Bool.or_false, Bool.or_true, Bool.and_true, Bool.and_false, Bool.and_eq_true, Bool.not_true, Bool.not_false, Nat.reduceAdd, Nat.reduceMul, Nat.reduceLT, Nat.reduceLeDiff, Nat.reduceEqDiff, Nat.reduceBEq, Nat.add_zero, Nat.zero_add, ne_eq, not_false_eq_true, beq_self_eq_true, true_and, and_true, and_false, and_self, false_implies, implies_true, forall_const, List.map_cons, List.map_nil, List.nil_append, List.cons_append, List.append_nil, List.all_cons, List.all_nil, Option.map_some, List.getD_cons_zero, List.getD_cons_succ, List.length_cons, List.length_nil, List.take_succ_cons, List.take_zero, List.take_nil, List.drop_succ_cons, List.drop_zero, List.drop_nil, ex_clo, or_true, or_self, Bool.false_eq_true, tab3, tab23, tab26, tab28, tab30, tab59, hN, pe, encP, FinH, resA, resV, SLe, SLe0, convTm, convHp, convB, lk_impl_IsDrawing_1_impl_common, lk_impl_IsDrawing_1_impl_Segment_atEnds, sp_impl_common, sp_impl_Segment_atEnds, el, g0, g1, si, sj, ti, tj, hc, e0, c0, c1, hb2, tn0, List.getD_cons_zero]
    exact ⟨⟨by omega, by omega⟩, ⟨by omega, by omega⟩, ⟨by omega, by omega⟩, id, by simp [convL, conv, conv0]⟩
  | p :: q :: r =>
    rw [hc] at hb ec
    have ec2 : ((encPs (p :: q :: r)).length : Int) = (r.length : Int) + 2 := by rw [len_encPs]; simp; omega
    have c0 : (((r.length : Int) + 2) == 0) = false := by rw [beq_eq_false_iff_ne]; omega
    have c1 : (((r.length : Int) + 2) == 1) = false := by rw [beq_eq_false_iff_ne]; omega
    have hb2 : true = badS s t := hb
    simp only [V_seq, V_skip, V_ret, V_block, V_region, V_draw, V_cond, brW_false, drawW, WS_nil, pairsOf, W_nil, W_cons, effOp2, effOp3, WI_nil, WI_cons, KN_seq, KN_block, KXr_nil, QE, dynOK, indB, farB, seeB, see, isStore, freshB, freshK, freshK1, ownId, heapy, asB, effOp, effPure, effNew, effAlloc, effBox, effStore, effCall, giveUp, hasAll, skipE, pureV, storeV, binV, partV, eltV, loadV, faddrV, iaddrV, lenV, over, solid, IV.cells, ofC, strip, lkT, lkH, ISt.app, opI, gO, gB, allB, gval, wrapG, dstOK, setD, mentTm, mentHp, IV.ment, IV.mentL, oneI, lendV, lendP, lent, lentP, idsV, idsL, lkHS, flat, clean, callArgs, callFn, allLent, enumT, conv, conv0, IBlk.shape, Op.operands, Call.operands, List.append_toArray, reduceIte, reduceCtorEq, cond_true, cond_false, Bool.or_false, Bool.or_true, Bool.and_true, Bool.and_false, Bool.and_eq_true, Bool.not_true, Bool.not_false, Nat.reduceAdd, Nat.reduceMul, Nat.reduceLT, Nat.reduceLeDiff, Nat.reduceEqDiff, Nat.reduceBEq, Nat.add_zero, Nat.zero_add, ne_eq, not_false_eq_true, beq_self_eq_true, true_and, and_true, and_false, and_self, false_implies, implies_true, forall_const, List.map_cons, List.map_nil, List.nil_append, List.cons_append, List.append_nil, List.all_cons, List.all_nil, Option.map_some, List.getD_cons_zero, List.getD_cons_succ, List.length_cons, List.length_nil, List.take_succ_cons, List.take_zero, List.take_nil, List.drop_succ_cons, List.drop_zero, List.drop_nil, ex_clo, or_true, Bool.false_eq_true, tab3, tab23, tab26, tab30, tab59, hN, pe, encP, FinH, resA, resV, SLe, SLe0, convTm, convHp, convB, lk_impl_IsDrawing_1_impl_common, sp_impl_common, el, g0, g1, si, sj, ti, tj, hc, ec2, c0, c1, ← hb2]
    exact ⟨⟨by omega, by omega⟩, ⟨by omega, by omega⟩, id, by simp [convL, conv, conv0]⟩
def hs_impl_IsDrawing_1 : HSpec := ⟨[true, false], fun xs hp => match xs, hp with | [.agg [.num .i64 px, .num .i64 py], .ptr 1000 0], [(1000, .box ty [.sl 4 es])] => (isQs es) ∧ (ty = 26) ∧ ((fun (p : Pt) (l : List Qd) => 0 ≤ p.1 ∧ p.1 < (l.length : Int)) (px, py) (toQs es)) ∧ ((fun (p : Pt) (l : List Qd) => 0 ≤ p.2 ∧ p.2 < (l.length : Int)) (px, py) (toQs es)) ∧ ((fun (p : Pt) (l : List Qd) => okSs l = true) (px, py) (toQs es)) | _, _ => False, fun xs hp => match xs, hp with | [.agg [.num .i64 px, .num .i64 py], .ptr 1000 0], [(1000, .box ty [.sl 4 es])] => (fun (p : Pt) (l : List Qd) => (.bool (badS (qAt l p.1.toNat) (qAt l p.2.toNat)) : IV)) (px, py) (toQs es) | _, _ => .junk, fun xs hp => match xs, hp with | [.agg [.num .i64 px, .num .i64 py], .ptr 1000 0], [(1000, .box ty [.sl 4 es])] => (fun (p : Pt) (l : List Qd) => ([(1000, .box 26 [.sl 4 (encQs l)])] : List (Nat × IBlk))) (px, py) (toQs es) | _, _ => []⟩
theorem hk_impl_IsDrawing_1 : ∀ args hp, hs_impl_IsDrawing_1.pre args hp → HCall Try.prog 41 args (sm hp) (hs_impl_IsDrawing_1.val args hp) (sm (hs_impl_IsDrawing_1.hval args hp)) := by
  intro args hp h
  unfold hs_impl_IsDrawing_1 at h ⊢; simp only at h ⊢; split at h
  · obtain ⟨h1, rfl, h2, h3, h4⟩ := h; obtain ⟨l, rfl⟩ := isQ_ex h1; rw [toQs_enc] at *; exact c_impl_IsDrawing_1 (_, _) l h2 h3 h4
  · exact h.elim
theorem en_impl_IsDrawing_1 : Enters Try.prog 41 := enters_of Try.func41 (by kernel_rfl) rfl

theorem prs_in {n : Nat} {p : Pt} (h : p ∈ prs n n) : (0 ≤ p.1 ∧ p.1 < (n : Int)) ∧ (0 ≤ p.2 ∧ p.2 < (n : Int)) := by
  obtain ⟨i, j, h1, h2, rfl⟩ := prs_mem (Nat.le_refl _) h
  simp only []
  omega
def g_slices_IndexFunc_impl_Pair_impl_Pair_dr : List (Nat × PSpec) := []
theorem gok_slices_IndexFunc_impl_Pair_impl_Pair_dr : GOK Try.prog g_slices_IndexFunc_impl_Pair_impl_Pair_dr := gok0
def h_slices_IndexFunc_impl_Pair_impl_Pair_dr : List (Nat × HSpec) := [(41, hs_impl_IsDrawing_1)]
theorem hok_slices_IndexFunc_impl_Pair_impl_Pair_dr : HOK Try.prog h_slices_IndexFunc_impl_Pair_impl_Pair_dr := hok_cons hk_impl_IsDrawing_1 en_impl_IsDrawing_1 (hok0)
theorem lh_slices_IndexFunc_impl_Pair_impl_Pair_dr_impl_IsDrawing_1 : lkHS h_slices_IndexFunc_impl_Pair_impl_Pair_dr 41 = some hs_impl_IsDrawing_1 := rfl
theorem c_slices_IndexFunc_impl_Pair_impl_Pair_dr (ps : List Pt) (l : List Qd) (hp : ∀ p ∈ ps, (0 ≤ p.1 ∧ p.1 < (l.length : Int)) ∧ (0 ≤ p.2 ∧ p.2 < (l.length : Int))) (hs : okSs l = true) (hsz : ps.length ≤ 1000000) : HCall Try.prog 90 [.sl 2 (encPs ps), .clo 41 [.ptr 1000 0]] (sm ([(1000, .box 26 [.sl 4 (encQs l)])])) (.num .i64 (idxF (fun p => badS (qAt l p.1.toNat) (qAt l p.2.toNat)) ps 0)) (sm ([(1000, .box 26 [.sl 4 (encQs l)])])) := by
  refine hcall_V (G := g_slices_IndexFunc_impl_Pair_impl_Pair_dr) (H := h_slices_IndexFunc_impl_Pair_impl_Pair_dr) [] tabOK mixed gok_slices_IndexFunc_impl_Pair_impl_Pair_dr hok_slices_IndexFunc_impl_Pair_impl_Pair_dr Try.func90 rfl Try.ntmps90 Try.results90 rfl (by kernel_rfl) fun F hN hlen => ?_
  simp only [sm]
  have el := len_encPs ps
  simp only [V_seq, V_block, V_region, W_nil, W_cons, effOp2, KN_seq, effOp, effPure, pureV, lenV, ofC, strip, lkT, ISt.app, opI, gO, gB, allB, gval, wrapG, dstOK, setD, enumT, Op.operands, Call.operands, List.append_toArray, reduceIte, reduceCtorEq, Nat.reduceLT, Nat.reduceEqDiff, Nat.zero_add, ne_eq, not_false_eq_true, true_and, and_self, implies_true, List.nil_append, List.cons_append, tab32, hN, el]
  refine V_loop (α := Nat) ⟨tabOK, mixed, gok_slices_IndexFunc_impl_Pair_impl_Pair_dr, hok_slices_IndexFunc_impl_Pair_impl_Pair_dr⟩ (by kernel_rfl) (fun i => i ≤ ps.length ∧ idxF (fun p => badS (qAt l p.1.toNat) (qAt l p.2.toNat)) ps 0 = idxF (fun p => badS (qAt l p.1.toNat) (qAt l p.2.toNat)) (ps.drop i) i)
    (fun i => ⟨[(8, .num .i64 i), (7, .num .i64 ps.length), (0, .sl 2 (encPs ps)), (1, .clo 41 [.ptr 1000 0])], [(1000, some (.box 26 [.sl 4 (encQs l)]))]⟩) (fun i => ps.length - i) 0 id (by simp) (by simp [SLe, SLe0, convTm, convHp, convB, conv, conv0, convL, lkT, lkH, clean]) ?_
  rintro i ⟨hi2, hj⟩
  simp only [V_seq, V_region, V_cond, W_nil, W_cons, effOp2, KN_seq, asB, effOp, effPure, pureV, binV, strip, lkT, ISt.app, opI, gO, gB, allB, gval, wrapG, dstOK, setD, Op.operands, reduceIte, reduceCtorEq, Nat.reduceLT, Nat.reduceEqDiff, true_and, and_self, implies_true, List.nil_append, List.cons_append, hN]
  refine brW_some (fun h => ?_) (fun h => ?_)
  · have hi' : i < ps.length := by simpa using h
    have g0 := getD_encPs hi'
    have hw := wr_succ hi' (by rw [maxLen_eq]; omega)
    have hst := idxF_step (p := fun p => badS (qAt l p.1.toNat) (qAt l p.2.toNat)) (d := (0, 0)) hi'
    have hz := hp (pAt ps i) (by rw [pAt, List.getD, List.getElem?_eq_getElem hi']; exact List.getElem_mem hi')
    change _ = if badS (qAt l (pAt ps i).1.toNat) (qAt l (pAt ps i).2.toNat) = true then _ else _ at hst
    generalize pAt ps i = z at *
    simp only [V_seq, V_skip, V_block, V_region, V_cond, W_nil, W_cons, effOp2, KN_seq, asB, effOp, effPure, Option.isSome_some, skipE, pureV, partV, eltV, loadV, iaddrV, strip, lkT, lkH, ISt.app, opI, gO, gB, allB, gval, wrapG, dstOK, setD, mentTm, mentHp, IV.ment, IV.mentL, lendV, lendP, lent, lentP, idsV, idsL, clean, callArgs, callFn, enumT, conv, conv0, convL, IBlk.shape, Op.operands, reduceIte, reduceCtorEq, cond_true, cond_false, Bool.or_false, Bool.or_true, Bool.and_true, Nat.reduceAdd, Nat.reduceSub, Nat.reduceMul, Nat.reduceLT, Nat.reduceLeDiff, Nat.reduceEqDiff, Nat.zero_add, ne_eq, not_false_eq_true, beq_self_eq_true, true_and, and_true, and_false, and_self, implies_true, forall_const, List.map_cons, List.map_nil, List.nil_append, List.cons_append, List.append_nil, List.all_nil, Option.map_some, List.getD_cons_zero, List.length_cons, List.length_nil, List.take_succ_cons, List.take_nil, List.drop_zero, ex_clo, Bool.true_eq_false, Bool.false_eq_true, tab32, tab59, hN, Int.toNat_natCast, isQs_enc, toQs_enc, SLe0, convTm, convHp, convB, sm, effH, mkHC0, mkHC1, lendM, lentM, lentI, allHere, addIds, idsB, flatIds, reach, posn, renV, renL, renB, renH, numB, subHp, fwd, bk, bwd, nones, keyOK, noSl, noSlL, flatBs, List.contains, List.elem, Option.isSome_some, List.nodup_nil, List.nodup_cons, List.not_mem_nil, or_false, Option.getD_some, lh_slices_IndexFunc_impl_Pair_impl_Pair_dr_impl_IsDrawing_1, hs_impl_IsDrawing_1, el, g0, hz, hs]
    refine ⟨⟨by omega, by omega⟩, brW_some (fun h => ?_) (fun h => ?_)⟩
    · rw [if_pos h, ← hj] at hst
      simp only [V_seq, V_ret, V_region, W_nil, W_cons, effOp2, KN_seq, KXr_nil, KXr_seq, KXr_block, KXr_back, QE, effOp, effPure, pureV, strip, lkT, lkH, ISt.app, opI, gO, gB, allB, gval, wrapG, dstOK, setD, clean, conv, conv0, Op.operands, reduceIte, reduceCtorEq, Nat.reduceLT, Nat.reduceEqDiff, not_false_eq_true, true_and, and_true, and_self, false_implies, implies_true, List.map_cons, List.map_nil, List.nil_append, List.cons_append, hN, FinH, resA, resV, SLe, SLe0, convTm, convHp, convB, List.nodup_nil, List.nodup_cons, List.not_mem_nil, hst]
      exact ⟨id, by simp [convL, conv, conv0]⟩
    · rw [if_neg (by rw [h]; decide), ← hj] at hst
      simp only [V_skip, V_region, W_nil, W_cons, effOp2, KN_seq, KN_block, KN_back, effOp, effPure, pureV, binV, ofC, strip, lkT, ISt.app, opI, gO, gB, allB, gval, wrapG, dstOK, setD, Op.operands, reduceIte, reduceCtorEq, Nat.reduceLT, Nat.reduceEqDiff, true_and, and_self, implies_true, List.nil_append, List.cons_append, hN, hw]
      exact ⟨i + 1, id, ⟨by omega, hst⟩, by simp only []; omega, by simp [SLe, SLe0, convTm, convHp, convB, conv, conv0, convL, lkT, lkH, clean]⟩
  · have hie : i = ps.length := by simp at h; omega
    subst hie
    rw [List.drop_length] at hj
    simp only [V_seq, V_ret, V_exit, V_region, W_nil, W_cons, effOp2, KN_seq, KXr_nil, KXe_nil, KXe_seq, KXe_block, KXe_back, QE, effOp, effPure, pureV, ofC, strip, lkT, lkH, ISt.app, opI, gO, gB, allB, gval, wrapG, dstOK, setD, clean, conv, conv0, Op.operands, reduceIte, reduceCtorEq, Nat.reduceLT, Nat.reduceEqDiff, not_false_eq_true, true_and, and_true, and_self, false_implies, implies_true, List.map_cons, List.map_nil, List.nil_append, List.cons_append, hN, FinH, resA, resV, SLe, SLe0, convTm, convHp, convB, List.nodup_nil, List.nodup_cons, List.not_mem_nil, hj, idxF]
    exact ⟨id, by simp [convL, conv, conv0]⟩
def hs_slices_IndexFunc_impl_Pair_impl_Pair_dr : HSpec := ⟨[true, false], fun xs hp => match xs, hp with | [.sl 2 ls, .clo 41 [.ptr 1000 0]], [(1000, .box ty [.sl 4 es])] => (isPs ls) ∧ (isQs es) ∧ (ty = 26) ∧ ((fun (ps : List Pt) (l : List Qd) => ∀ p ∈ ps, (0 ≤ p.1 ∧ p.1 < (l.length : Int)) ∧ (0 ≤ p.2 ∧ p.2 < (l.length : Int))) (toPs ls) (toQs es)) ∧ ((fun (ps : List Pt) (l : List Qd) => okSs l = true) (toPs ls) (toQs es)) ∧ ((fun (ps : List Pt) (l : List Qd) => ps.length ≤ 1000000) (toPs ls) (toQs es)) | _, _ => False, fun xs hp => match xs, hp with | [.sl 2 ls, .clo 41 [.ptr 1000 0]], [(1000, .box ty [.sl 4 es])] => (fun (ps : List Pt) (l : List Qd) => (.num .i64 (idxF (fun p => badS (qAt l p.1.toNat) (qAt l p.2.toNat)) ps 0) : IV)) (toPs ls) (toQs es) | _, _ => .junk, fun xs hp => match xs, hp with | [.sl 2 ls, .clo 41 [.ptr 1000 0]], [(1000, .box ty [.sl 4 es])] => (fun (ps : List Pt) (l : List Qd) => ([(1000, .box 26 [.sl 4 (encQs l)])] : List (Nat × IBlk))) (toPs ls) (toQs es) | _, _ => []⟩
theorem hk_slices_IndexFunc_impl_Pair_impl_Pair_dr : ∀ args hp, hs_slices_IndexFunc_impl_Pair_impl_Pair_dr.pre args hp → HCall Try.prog 90 args (sm hp) (hs_slices_IndexFunc_impl_Pair_impl_Pair_dr.val args hp) (sm (hs_slices_IndexFunc_impl_Pair_impl_Pair_dr.hval args hp)) := by
  intro args hp h
  unfold hs_slices_IndexFunc_impl_Pair_impl_Pair_dr at h ⊢; simp only at h ⊢; split at h
  · obtain ⟨h0, h1, rfl, h2, h3, h4⟩ := h; obtain ⟨w, rfl⟩ := isP_ex h0; obtain ⟨l, rfl⟩ := isQ_ex h1; rw [toPs_enc, toQs_enc] at *; exact c_slices_IndexFunc_impl_Pair_impl_Pair_dr w l h2 h3 h4
  · exact h.elim
theorem en_slices_IndexFunc_impl_Pair_impl_Pair_dr : Enters Try.prog 90 := enters_of Try.func90 (by kernel_rfl) rfl

def g_slices_ContainsFunc_impl_Pair_impl_Pair_dr : List (Nat × PSpec) := []
theorem gok_slices_ContainsFunc_impl_Pair_impl_Pair_dr : GOK Try.prog g_slices_ContainsFunc_impl_Pair_impl_Pair_dr := gok0
def h_slices_ContainsFunc_impl_Pair_impl_Pair_dr : List (Nat × HSpec) := [(90, hs_slices_IndexFunc_impl_Pair_impl_Pair_dr)]
theorem hok_slices_ContainsFunc_impl_Pair_impl_Pair_dr : HOK Try.prog h_slices_ContainsFunc_impl_Pair_impl_Pair_dr := hok_cons hk_slices_IndexFunc_impl_Pair_impl_Pair_dr en_slices_IndexFunc_impl_Pair_impl_Pair_dr (hok0)
theorem lh_slices_ContainsFunc_impl_Pair_impl_Pair_dr_slices_IndexFunc_impl_Pair_impl_Pair_dr : lkHS h_slices_ContainsFunc_impl_Pair_impl_Pair_dr 90 = some hs_slices_IndexFunc_impl_Pair_impl_Pair_dr := rfl
theorem c_slices_ContainsFunc_impl_Pair_impl_Pair_dr (ps : List Pt) (l : List Qd) (hp : ∀ p ∈ ps, (0 ≤ p.1 ∧ p.1 < (l.length : Int)) ∧ (0 ≤ p.2 ∧ p.2 < (l.length : Int))) (hs : okSs l = true) (hsz : ps.length ≤ 1000000) : HCall Try.prog 39 [.sl 2 (encPs ps), .clo 41 [.ptr 1000 0]] (sm ([(1000, .box 26 [.sl 4 (encQs l)])])) (.bool (ps.any (fun p => badS (qAt l p.1.toNat) (qAt l p.2.toNat)))) (sm ([(1000, .box 26 [.sl 4 (encQs l)])])) := by
  refine hcall_V (G := g_slices_ContainsFunc_impl_Pair_impl_Pair_dr) (H := h_slices_ContainsFunc_impl_Pair_impl_Pair_dr) [] tabOK mixed gok_slices_ContainsFunc_impl_Pair_impl_Pair_dr hok_slices_ContainsFunc_impl_Pair_impl_Pair_dr Try.func39 rfl Try.ntmps39 Try.results39 rfl (by kernel_rfl) fun F hN hlen => ?_
  simp only [sm]
  simp only [V_seq, V_ret, V_region, W_nil, W_cons, effOp2, KN_seq, KXr_nil, QE, effOp, effPure, Option.isSome_some, skipE, pureV, binV, ofC, strip, lkT, lkH, ISt.app, opI, gO, gB, allB, gval, wrapG, dstOK, setD, mentTm, mentHp, IV.ment, IV.mentL, lendV, lendP, lent, lentP, idsV, idsL, clean, callArgs, callFn, enumT, conv, conv0, convL, IBlk.shape, Op.operands, reduceIte, reduceCtorEq, cond_true, cond_false, Bool.or_false, Bool.or_true, Bool.and_true, Nat.reduceAdd, Nat.reduceSub, Nat.reduceMul, Nat.reduceLT, Nat.reduceLeDiff, Nat.reduceEqDiff, Nat.zero_add, not_false_eq_true, beq_self_eq_true, true_and, and_true, and_false, and_self, false_implies, implies_true, List.map_cons, List.map_nil, List.nil_append, List.cons_append, List.append_nil, List.all_nil, Option.map_some, List.getD_cons_zero, ex_clo, Bool.true_eq_false, Bool.false_eq_true, hN, isPs_enc, toPs_enc, isQs_enc, toQs_enc, FinH, resA, resV, SLe, SLe0, convTm, convHp, convB, sm, effH, mkHC0, mkHC1, lendM, lentM, lentI, allHere, addIds, idsB, flatIds, reach, posn, renV, renL, renB, renH, numB, subHp, fwd, bk, bwd, nones, keyOK, noSl, noSlL, flatBs, List.contains, List.elem, Option.isSome_some, List.nodup_nil, List.nodup_cons, List.not_mem_nil, or_false, Option.getD_some, lh_slices_ContainsFunc_impl_Pair_impl_Pair_dr_slices_IndexFunc_impl_Pair_impl_Pair_dr, hs_slices_IndexFunc_impl_Pair_impl_Pair_dr, hs, hsz, idxF_sign]
  exact ⟨hp, id, by simp [convL, conv, conv0]⟩
def hs_slices_ContainsFunc_impl_Pair_impl_Pair_dr : HSpec := ⟨[true, false], fun xs hp => match xs, hp with | [.sl 2 ls, .clo 41 [.ptr 1000 0]], [(1000, .box ty [.sl 4 es])] => (isPs ls) ∧ (isQs es) ∧ (ty = 26) ∧ ((fun (ps : List Pt) (l : List Qd) => ∀ p ∈ ps, (0 ≤ p.1 ∧ p.1 < (l.length : Int)) ∧ (0 ≤ p.2 ∧ p.2 < (l.length : Int))) (toPs ls) (toQs es)) ∧ ((fun (ps : List Pt) (l : List Qd) => okSs l = true) (toPs ls) (toQs es)) ∧ ((fun (ps : List Pt) (l : List Qd) => ps.length ≤ 1000000) (toPs ls) (toQs es)) | _, _ => False, fun xs hp => match xs, hp with | [.sl 2 ls, .clo 41 [.ptr 1000 0]], [(1000, .box ty [.sl 4 es])] => (fun (ps : List Pt) (l : List Qd) => (.bool (ps.any (fun p => badS (qAt l p.1.toNat) (qAt l p.2.toNat))) : IV)) (toPs ls) (toQs es) | _, _ => .junk, fun xs hp => match xs, hp with | [.sl 2 ls, .clo 41 [.ptr 1000 0]], [(1000, .box ty [.sl 4 es])] => (fun (ps : List Pt) (l : List Qd) => ([(1000, .box 26 [.sl 4 (encQs l)])] : List (Nat × IBlk))) (toPs ls) (toQs es) | _, _ => []⟩
theorem hk_slices_ContainsFunc_impl_Pair_impl_Pair_dr : ∀ args hp, hs_slices_ContainsFunc_impl_Pair_impl_Pair_dr.pre args hp → HCall Try.prog 39 args (sm hp) (hs_slices_ContainsFunc_impl_Pair_impl_Pair_dr.val args hp) (sm (hs_slices_ContainsFunc_impl_Pair_impl_Pair_dr.hval args hp)) := by
  intro args hp h
  unfold hs_slices_ContainsFunc_impl_Pair_impl_Pair_dr at h ⊢; simp only at h ⊢; split at h
  · obtain ⟨h0, h1, rfl, h2, h3, h4⟩ := h; obtain ⟨w, rfl⟩ := isP_ex h0; obtain ⟨l, rfl⟩ := isQ_ex h1; rw [toPs_enc, toQs_enc] at *; exact c_slices_ContainsFunc_impl_Pair_impl_Pair_dr w l h2 h3 h4
  · exact h.elim
theorem en_slices_ContainsFunc_impl_Pair_impl_Pair_dr : Enters Try.prog 39 := enters_of Try.func39 (by kernel_rfl) rfl

def g_impl_IsDrawing : List (Nat × PSpec) := [(38, sp_impl_segmentsOk), (40, sp_impl_pairs)]
theorem gok_impl_IsDrawing : GOK Try.prog g_impl_IsDrawing := gok_cons gk_impl_segmentsOk en_impl_segmentsOk (gok_cons gk_impl_pairs en_impl_pairs (gok0))
theorem lk_impl_IsDrawing_impl_segmentsOk : lkG g_impl_IsDrawing 38 = sp_impl_segmentsOk := rfl
theorem lk_impl_IsDrawing_impl_pairs : lkG g_impl_IsDrawing 40 = sp_impl_pairs := rfl
def h_impl_IsDrawing : List (Nat × HSpec) := [(39, hs_slices_ContainsFunc_impl_Pair_impl_Pair_dr)]
theorem hok_impl_IsDrawing : HOK Try.prog h_impl_IsDrawing := hok_cons hk_slices_ContainsFunc_impl_Pair_impl_Pair_dr en_slices_ContainsFunc_impl_Pair_impl_Pair_dr (hok0)
theorem lh_impl_IsDrawing_impl_segmentsOk : lkHS h_impl_IsDrawing 38 = none := rfl
theorem lh_impl_IsDrawing_impl_pairs : lkHS h_impl_IsDrawing 40 = none := rfl
theorem lh_impl_IsDrawing_slices_ContainsFunc_impl_Pair_impl_Pair_dr : lkHS h_impl_IsDrawing 39 = some hs_slices_ContainsFunc_impl_Pair_impl_Pair_dr := rfl
theorem c_impl_IsDrawing (l : List Qd)  : ICall Try.prog 11 [.sl 4 (encQs l)] (.bool (drB l)) := by
  refine icall_V (G := g_impl_IsDrawing) (H := h_impl_IsDrawing) [] tabOK mixed gok_impl_IsDrawing hok_impl_IsDrawing Try.func11 rfl Try.ntmps11 Try.results11 rfl (by kernel_rfl) fun F hN hlen => ?_
  have el := len_encQs l
  have hv : drB l = (okSs l && !((prs l.length l.length).any fun p => badS (qAt l p.1.toNat) (qAt l p.2.toNat))) := rfl
  cases hs : okSs l with
  | false =>
    rw [hs] at hv
    simp only [V_seq, V_ret, V_region, V_cond, brW_true, W_nil, W_cons, effOp2, KN_seq, KXr_nil, KXr_seq, QE, asB, effOp, effPure, effNew, effBox, effCall, giveUp, hasAll, skipE, pureV, partV, loadV, solid, IV.cells, ofC, strip, lkT, lkH, ISt.app, opI, gO, gB, allB, gval, wrapG, dstOK, setD, mentTm, mentHp, IV.ment, oneI, lendV, lendP, lent, lentP, idsV, idsL, flat, clean, callArgs, callFn, allLent, enumT, Gives, Ideal.Fin, conv, conv0, Op.operands, reduceIte, reduceCtorEq, cond_true, Bool.or_false, Bool.and_true, Bool.false_and, Bool.not_true, Bool.not_false, Nat.reduceLT, Nat.reduceLeDiff, Nat.reduceEqDiff, Nat.zero_add, and_self, implies_true, List.map_cons, List.map_nil, List.nil_append, List.cons_append, List.append_nil, List.all_cons, List.all_nil, List.getD_cons_zero, List.length_cons, List.length_nil, List.take_succ_cons, List.take_nil, List.drop_zero, ex_clo, or_self, tab26, hN, isQs_enc, toQs_enc, lk_impl_IsDrawing_impl_segmentsOk, sp_impl_segmentsOk, lh_impl_IsDrawing_impl_segmentsOk, hs, hv]
  | true =>
    rw [hs] at hv
    have h12 := okSs_len hs
    have hp : ∀ p ∈ prs l.length l.length, (0 ≤ p.1 ∧ p.1 < (l.length : Int)) ∧ (0 ≤ p.2 ∧ p.2 < (l.length : Int)) := fun p hp => prs_in hp
    have hz : (prs l.length l.length).length ≤ 1000000 := by
      have := prs_len l.length l.length
      have h4 : l.length * l.length ≤ 12 * 12 := Nat.mul_le_mul (by omega) (by omega)
      omega
    have h0 : (0 : Int) ≤ l.length ∧ (l.length : Int) ≤ 1000 := by omega
    have tn : Int.toNat (l.length : Int) = l.length := Int.toNat_natCast _
    have tp := take_encPs (prs l.length l.length)
    simp only [V_seq, V_skip, V_ret, V_region, V_cond, brW_false, W_nil, W_cons, effOp2, KN_seq, KXr_nil, QE, asB, effOp, effPure, effNew, effBox, effCall, giveUp, hasAll, Option.isSome_some, skipE, pureV, partV, loadV, lenV, solid, IV.cells, ofC, strip, lkT, lkH, ISt.app, opI, gO, gB, allB, gval, wrapG, dstOK, setD, mentTm, mentHp, IV.ment, IV.mentL, oneI, lendV, lendP, lent, lentP, idsV, idsL, flat, clean, callArgs, callFn, allLent, enumT, Gives, Ideal.Fin, conv, conv0, convL, IBlk.shape, Op.operands, Call.operands, List.append_toArray, reduceIte, reduceCtorEq, cond_true, cond_false, Bool.or_false, Bool.or_true, Bool.and_true, Bool.true_and, Bool.not_true, Nat.reduceAdd, Nat.reduceSub, Nat.reduceMul, Nat.reduceLT, Nat.reduceLeDiff, Nat.reduceEqDiff, Nat.zero_add, ne_eq, not_false_eq_true, beq_self_eq_true, true_and, and_true, and_false, and_self, implies_true, List.map_cons, List.map_nil, List.nil_append, List.cons_append, List.append_nil, List.all_cons, List.all_nil, Option.map_some, List.getD_cons_zero, List.length_cons, List.length_nil, List.take_succ_cons, List.take_nil, List.drop_zero, ex_clo, or_true, or_self, Bool.true_eq_false, Bool.false_eq_true, tab26, hN, isPs_enc, toPs_enc, isQs_enc, toQs_enc, SLe0, convTm, convHp, convB, sm, effH, mkHC0, mkHC1, lendM, lentM, lentI, allHere, addIds, idsB, flatIds, reach, posn, renV, renL, renB, renH, numB, subHp, fwd, bk, bwd, nones, keyOK, noSl, noSlL, flatBs, List.contains, List.elem, Option.isSome_some, List.nodup_nil, List.nodup_cons, List.not_mem_nil, or_false, Option.getD_some, lk_impl_IsDrawing_impl_segmentsOk, lk_impl_IsDrawing_impl_pairs, sp_impl_segmentsOk, sp_impl_pairs, lh_impl_IsDrawing_impl_segmentsOk, lh_impl_IsDrawing_impl_pairs, lh_impl_IsDrawing_slices_ContainsFunc_impl_Pair_impl_Pair_dr, hs_slices_ContainsFunc_impl_Pair_impl_Pair_dr, el, hs, hz, h0, tn, hv]
    exact hp
def sp_impl_IsDrawing : PSpec := ⟨fun xs => match xs with | [.sl 4 les] => isQs les | _ => False, fun xs => match xs with | [.sl _ les] => (fun (l : List Qd) => .bool (drB l)) (toQs les) | _ => .junk, false⟩
theorem gk_impl_IsDrawing : ∀ args, sp_impl_IsDrawing.pre args → ICall Try.prog 11 args (sp_impl_IsDrawing.val args) := by
  intro args h
  unfold sp_impl_IsDrawing at h ⊢; simp only at h ⊢; split at h
  · have h0 := h
    obtain ⟨l0, rfl⟩ := isQ_ex h0
    simp only [toQs_enc] at *
    exact c_impl_IsDrawing _ 
  · exact h.elim
theorem en_impl_IsDrawing : Enters Try.prog 11 := enters_of Try.func11 (by kernel_rfl) rfl

theorem dr_no {l : List Qd} {i j : Nat} (h1 : i < j) (h2 : j < l.length) (hb : badS (qAt l i) (qAt l j) = true) : drB l = false := by
  cases hc : ((prs l.length l.length).any fun p => badS (qAt l p.1.toNat) (qAt l p.2.toNat)) with
  | true => rw [drB, hc]; simp
  | false => rw [dr_any.1 hc i j h1 h2] at hb; cases hb
end Go.Proofs.Ytlcndghaendieaa
