/- Simple polygons are drawings: the walk. -/
import Derived.Test.YtlcndghaendieaaB79
import Derived.Test.YtlcndghaendieaaB69
import Derived.Test.YtlcndghaendieaaB20
set_option linter.unusedVariables false
set_option linter.unusedSimpArgs false
set_option maxHeartbeats 16000000
set_option maxRecDepth 100000
namespace Go.Proofs.Ytlcndghaendieaa
open Go Go.Ideal Go.Pl Go.Sort

def g_impl_pairs_h : List (Nat × PSpec) := []
theorem gok_impl_pairs_h : GOK Try.prog g_impl_pairs_h := gok0
def h_impl_pairs_h : List (Nat × HSpec) := []
theorem hok_impl_pairs_h : HOK Try.prog h_impl_pairs_h := hok0
theorem c_impl_pairs_h (m : Nat) (h1 : m ≤ 1000) : HCall Try.prog 40 [.num .i64 (m : Int)] (sm ([])) (.ref 0 0 (prs m m).length true) (sm ([(0, .arr 2 59 (encPs (prs m m)))])) := by
  refine hcall_V (G := g_impl_pairs_h) (H := []) [] tabOK mixed gok_impl_pairs_h hok_impl_pairs_h Try.func40 rfl Try.ntmps40 Try.results40 rfl (by kernel_rfl) fun F hN hlen => ?_
  simp only [sm]
  simp only [V_seq, V_block, V_region, W_nil, W_cons, effOp2, KN_seq, effOp, effPure, effNew, effBuildSlice, effFrz, frz, tmpsOf, skipE, pureV, ofC, strip, lkT, ISt.app, opI, gO, gB, allB, gval, wrapG, dstOK, setD, mentTm, mentHp, IV.ment, partsL, eltsI, enumT, Op.operands, reduceIte, reduceCtorEq, cond_true, Bool.or_false, Nat.reduceMul, Nat.reduceLT, Nat.reduceLeDiff, Nat.reduceEqDiff, ne_eq, not_false_eq_true, true_and, and_self, implies_true, List.nil_append, List.cons_append, List.append_nil, List.length_nil, tab32, tab59, hN]
  refine V_loop (α := Nat) ⟨tabOK, mixed, gok_impl_pairs_h, hok_impl_pairs_h⟩ (by kernel_rfl) (fun i => i ≤ m) (fun i => ⟨[(8, .num .i64 i), (7, .num .i64 m), (3, .ref 6 0 (prs m i).length true), (0, .num .i64 m)], [(6, some (.arr 2 59 (encPs (prs m i))))]⟩) (fun i => m - i) 0 id (Nat.zero_le _) (by simp [SLe, SLe0, convTm, convHp, convB, conv, conv0, lkT, lkH, clean, prs, encPs]) ?_
  intro i hi
  simp only [V_seq, V_region, V_cond, W_nil, W_cons, effOp2, KN_seq, asB, effOp, effPure, pureV, binV, strip, lkT, ISt.app, opI, gO, gB, allB, gval, wrapG, dstOK, setD, Op.operands, reduceIte, reduceCtorEq, Nat.reduceLT, Nat.reduceEqDiff, true_and, and_self, implies_true, List.nil_append, List.cons_append, hN]
  refine brW_some (fun h => ?_) (fun h => ?_)
  · have hi' : i < m := by simpa using h
    have hw := wr_succ hi' (by rw [maxLen_eq]; omega)
    have hp0 := prs_len m i
    have hmi : m * i ≤ 1000 * 1000 := Nat.mul_le_mul (by omega) (by omega)
    simp only [V_seq, V_skip, V_block, V_region, W_nil, W_cons, effOp2, KN_seq, effOp, effPure, pureV, binV, ofC, strip, lkT, ISt.app, opI, gO, gB, allB, gval, wrapG, dstOK, setD, Op.operands, reduceIte, reduceCtorEq, Nat.reduceLT, Nat.reduceEqDiff, true_and, and_self, implies_true, List.nil_append, List.cons_append, hN, hw]
    refine V_loop (α := Nat) ⟨tabOK, mixed, gok_impl_pairs_h, hok_impl_pairs_h⟩ (by kernel_rfl) (fun k => k ≤ m - (i + 1)) (fun k => ⟨[(5, .num .i64 ((i + 1 + k : Nat) : Int)), (4, .num .i64 i), (8, .num .i64 i), (7, .num .i64 m), (3, .ref 6 0 (prs m i ++ prow i k).length true), (0, .num .i64 m)], [(6, some (.arr 2 59 (encPs (prs m i ++ prow i k))))]⟩) (fun k => m - k) 0 id (Nat.zero_le _) (by simp [SLe, SLe0, convTm, convHp, convB, conv, conv0, lkT, lkH, clean, prow, encPs]; exact (List.take_of_length_le (by simp)).symm) ?_
    intro k hk
    have eo := len_encPs (prs m i ++ prow i k)
    have hx : ∃ k' ty es, IBlk.arr 2 59 (encPs (prs m i ++ prow i k)) = IBlk.arr k' ty es := ⟨_, _, _, rfl⟩
    have hst : prs m i ++ prow i (k + 1) = (prs m i ++ prow i k) ++ [((i : Int), ((i + 1 + k : Nat) : Int))] := by rw [prow_succ, List.append_assoc]
    have hle : (prs m i ++ prow i k).length ≤ 2000000 := by rw [List.length_append, prow_len]; omega
    have hfin : prs m (i + 1) = prs m i ++ prow i (m - (i + 1)) := rfl
    simp only [V_seq, V_region, V_cond, W_nil, W_cons, effOp2, KN_seq, asB, effOp, effPure, pureV, binV, strip, lkT, ISt.app, opI, gO, gB, allB, gval, wrapG, dstOK, setD, Op.operands, reduceIte, reduceCtorEq, Nat.reduceLT, Nat.reduceEqDiff, true_and, and_self, implies_true, List.nil_append, List.cons_append, hN]
    refine brW_some (fun h => ?_) (fun h => ?_)
    · have hk' : i + 1 + k < m := by simp at h; omega
      have hw2 : IntKind.i64.wrap (((i + 1 + k : Nat) : Int) + 1) = ((i + 1 + (k + 1) : Nat) : Int) := by rw [wr (by omega) (by omega)]; omega
      obtain ⟨out, hout⟩ : ∃ out, prs m i ++ prow i k = out := ⟨_, rfl⟩
      rw [hout] at eo hx hst hle ⊢
      simp only [V_seq, V_skip, V_block, V_region, W_nil, W_cons, effOp2, KN_seq, KN_block, KN_back, effOp, effPure, effNew, effBuildSlice, effFrz, frz, tmpsOf, effAppend, effZeros, skipE, pureV, srcV, refId, binV, over, solid, buildL, IV.cells, ofC, strip, lkT, lkH, ISt.app, opI, gO, gB, allB, gval, wrapG, dstOK, setD, mentTm, mentHp, IV.ment, IV.mentL, partsL, eltsI, eltI, oneI, noId', Op.operands, reduceIte, reduceCtorEq, cond_true, Bool.or_false, Bool.and_true, Nat.reduceAdd, Nat.reduceMul, Nat.reduceLT, Nat.reduceLeDiff, Nat.reduceEqDiff, Nat.reduceBEq, Nat.zero_add, ne_eq, not_false_eq_true, true_and, and_true, false_and, and_false, and_self, implies_true, List.map_cons, List.map_nil, List.nil_append, List.cons_append, List.append_nil, List.all_cons, List.all_nil, Option.some.injEq, List.getD_cons_zero, List.getD_cons_succ, List.length_cons, List.length_nil, List.take_succ_cons, List.take_zero, List.take_nil, List.drop_succ_cons, List.drop_zero, List.drop_nil, tab32, tab59, hN, hw2, eo]
      repeat refine And.intro (by first | omega | (simp; done) | (simp; omega)) ?_
      refine ⟨k + 1, fun x => if x = 6 then 23 else x, by simp only []; omega, by simp only []; omega, ?_⟩
      have hen : encPs (out ++ [((i : Int), ((i + 1 + k : Nat) : Int))]) = (encPs out).take out.length ++ [IV.agg [.num .i64 (i : Int), .num .i64 ((i + 1 + k : Nat) : Int)]] := by
        rw [← encPs_app, List.take_of_length_le (Nat.le_of_eq eo)]; rfl
      simp only [hst, hen, List.length_append]
      simp [SLe, SLe0, convTm, convHp, convB, conv, conv0, lkT, lkH, clean]
      exact ⟨(List.take_of_length_le (by rw [List.length_append, List.length_take]; exact Nat.le_refl _)).symm, fun id a1 a2 a3 => by omega⟩
    · have hke : k = m - (i + 1) := by simp at h; omega
      subst hke
      rw [← hfin]
      simp only [V_seq, V_ret, V_exit, V_region, W_nil, W_cons, effOp2, KN_seq, KN_block, KN_back, KXr_nil, KXe_nil, KXe_seq, KXe_block, KXe_back, QE, effOp, effPure, Option.isSome_some, pureV, binV, ofC, strip, lkT, lkH, ISt.app, opI, gO, gB, allB, gval, wrapG, dstOK, setD, conv, conv0, Op.operands, reduceIte, reduceCtorEq, Nat.reduceLT, Nat.reduceEqDiff, true_and, and_true, and_self, implies_true, List.map_cons, List.map_nil, List.nil_append, List.cons_append, hN, FinH, resA, resV, SLe, SLe0, convTm, convHp, convB, hw]
      exact ⟨i + 1, id, by simp only []; omega, by simp only []; omega, by simp [SLe, SLe0, convTm, convHp, convB, conv, conv0, lkT, lkH, clean]⟩
  · have hie : i = m := by simp at h; omega
    subst hie
    have eo := len_encPs (prs i i)
    simp only [V_seq, V_ret, V_exit, V_region, W_nil, W_cons, effOp2, KN_seq, KXr_nil, KXe_nil, KXe_seq, KXe_block, KXe_back, QE, effOp, effPure, Option.isSome_some, pureV, strip, lkT, lkH, ISt.app, opI, gO, gB, allB, gval, wrapG, dstOK, setD, conv, conv0, Op.operands, reduceIte, reduceCtorEq, Nat.reduceLT, Nat.reduceEqDiff, true_and, and_true, and_self, implies_true, List.map_cons, List.map_nil, List.nil_append, List.cons_append, hN, FinH, resA, resV, SLe, SLe0, convTm, convHp, convB]
    exact ⟨fun x => if x = 0 then 6 else x, by simp; intros; omega⟩
def hs_impl_pairs_h : HSpec := ⟨[true], fun xs hp => match xs, hp with | [.num .i64 n], [] => (n = ((n.toNat : Nat) : Int)) ∧ ((fun (m : Nat) => m ≤ 1000) n.toNat) | _, _ => False, fun xs hp => match xs, hp with | [.num .i64 n], [] => (fun (m : Nat) => (.ref 0 0 (prs m m).length true : IV)) n.toNat | _, _ => .junk, fun xs hp => match xs, hp with | [.num .i64 n], [] => (fun (m : Nat) => ([(0, .arr 2 59 (encPs (prs m m)))] : List (Nat × IBlk))) n.toNat | _, _ => []⟩
theorem hk_impl_pairs_h : ∀ args hp, hs_impl_pairs_h.pre args hp → HCall Try.prog 40 args (sm hp) (hs_impl_pairs_h.val args hp) (sm (hs_impl_pairs_h.hval args hp)) := by
  intro args hp h
  unfold hs_impl_pairs_h at h ⊢; simp only at h ⊢; split at h
  · obtain ⟨h1, h2⟩ := h; rw [h1]; exact c_impl_pairs_h _ h2
  · exact h.elim
theorem en_impl_pairs_h : Enters Try.prog 40 := enters_of Try.func40 (by kernel_rfl) rfl

/-- Are two segments apart? -/
def apS (l : List Qd) (p : Pt) : Bool := relP (qAt l p.1.toNat) (qAt l p.2.toNat) == 0
def g_impl_MeetingPairs_1 : List (Nat × PSpec) := [(43, sp_impl_relation)]
theorem gok_impl_MeetingPairs_1 : GOK Try.prog g_impl_MeetingPairs_1 := gok_cons gk_impl_relation en_impl_relation (gok0)
theorem lk_impl_MeetingPairs_1_impl_relation : lkG g_impl_MeetingPairs_1 43 = sp_impl_relation := rfl
def h_impl_MeetingPairs_1 : List (Nat × HSpec) := []
theorem hok_impl_MeetingPairs_1 : HOK Try.prog h_impl_MeetingPairs_1 := hok0
theorem c_impl_MeetingPairs_1 (p : Pt) (l : List Qd) (h0 : 0 ≤ p.1 ∧ p.1 < (l.length : Int)) (h1 : 0 ≤ p.2 ∧ p.2 < (l.length : Int)) (hs : okSs l = true) : HCall Try.prog 47 [encP p, .ptr 1000 0] (sm ([(1000, .box 26 [.sl 4 (encQs l)])])) (.bool (apS l p)) (sm ([(1000, .box 26 [.sl 4 (encQs l)])])) := by
  refine hcall_V (G := g_impl_MeetingPairs_1) (H := []) [(1, [(0, 10), (1, 10), (2, 10), (3, 10), (5, 10), (6, 10), (7, 10), (8, 10)])] tabOK mixed gok_impl_MeetingPairs_1 hok_impl_MeetingPairs_1 Try.func47 rfl Try.ntmps47 Try.results47 rfl (by kernel_rfl) fun F hN hlen => ?_
  simp only [sm]
  obtain ⟨p1, p2⟩ := p
  obtain ⟨i, rfl⟩ := Int.eq_ofNat_of_zero_le h0.1
  obtain ⟨j, rfl⟩ := Int.eq_ofNat_of_zero_le h1.1
  have hi : i < l.length := by omega
  have hj : j < l.length := by omega
  have el := len_encQs l
  have g0 := getD_encQs hi
  have g1 := getD_encQs hj
  have vi := okSs_at hs hi
  have vj := okSs_at hs hj
  obtain ⟨si, _, _, ni⟩ := vSg_facts vi
  obtain ⟨sj, _, _, nj⟩ := vSg_facts vj
  have ti : Int.toNat (i : Int) = i := Int.toNat_natCast i
  have tj : Int.toNat (j : Int) = j := Int.toNat_natCast j
  have hv : apS l ((i : Int), (j : Int)) = (relP (qAt l i) (qAt l j) == 0) := by simp only [apS, ti, tj]
  rw [hv]
  generalize qAt l i = s at *
  generalize qAt l j = t at *
  simp only [V_seq, V_ret, V_region, V_draw, drawW, WS_nil, pairsOf, W_nil, W_cons, effOp2, effOp3, WI_nil, WI_cons, KN_seq, KXr_nil, QE, dynOK, indB, farB, freshB, freshK, freshK1, heapy, effOp, effPure, effNew, effBox, effCall, giveUp, hasAll, skipE, pureV, binV, partV, eltV, loadV, faddrV, iaddrV, solid, IV.cells, ofC, strip, lkT, lkH, ISt.app, opI, gO, gB, allB, gval, wrapG, dstOK, setD, mentTm, mentHp, IV.ment, IV.mentL, oneI, lendV, lendP, lent, lentP, idsV, idsL, lkHS, flat, clean, callArgs, callFn, allLent, enumT, conv, conv0, IBlk.shape, Op.operands, Call.operands, List.append_toArray, reduceIte, reduceCtorEq, cond_true, cond_false, Bool.or_false, Bool.and_true, Bool.and_eq_true, Bool.not_true, Bool.not_false, Nat.reduceAdd, Nat.reduceLT, Nat.reduceLeDiff, Nat.reduceEqDiff, Nat.reduceBEq, Nat.add_zero, Nat.zero_add, ne_eq, not_false_eq_true, true_and, and_true, and_false, and_self, false_implies, implies_true, forall_const, List.map_cons, List.map_nil, List.nil_append, List.cons_append, List.append_nil, List.all_cons, List.all_nil, Option.map_some, List.getD_cons_zero, List.getD_cons_succ, List.length_cons, List.length_nil, List.take_succ_cons, List.take_zero, List.take_nil, List.drop_succ_cons, List.drop_zero, ex_clo, or_self, tab3, tab26, tab30, tab59, hN, pe, encP, FinH, resA, resV, SLe, SLe0, convTm, convHp, convB, lk_impl_MeetingPairs_1_impl_relation, sp_impl_relation, el, g0, g1, si, sj, ni, nj, ti, tj]
  exact ⟨⟨by omega, by omega⟩, ⟨by omega, by omega⟩, id, by simp [convL, conv, conv0]⟩
def hs_impl_MeetingPairs_1 : HSpec := ⟨[true, false], fun xs hp => match xs, hp with | [.agg [.num .i64 px, .num .i64 py], .ptr 1000 0], [(1000, .box ty [.sl 4 es])] => (isQs es) ∧ (ty = 26) ∧ ((fun (p : Pt) (l : List Qd) => 0 ≤ p.1 ∧ p.1 < (l.length : Int)) (px, py) (toQs es)) ∧ ((fun (p : Pt) (l : List Qd) => 0 ≤ p.2 ∧ p.2 < (l.length : Int)) (px, py) (toQs es)) ∧ ((fun (p : Pt) (l : List Qd) => okSs l = true) (px, py) (toQs es)) | _, _ => False, fun xs hp => match xs, hp with | [.agg [.num .i64 px, .num .i64 py], .ptr 1000 0], [(1000, .box ty [.sl 4 es])] => (fun (p : Pt) (l : List Qd) => (.bool (apS l p) : IV)) (px, py) (toQs es) | _, _ => .junk, fun xs hp => match xs, hp with | [.agg [.num .i64 px, .num .i64 py], .ptr 1000 0], [(1000, .box ty [.sl 4 es])] => (fun (p : Pt) (l : List Qd) => ([(1000, .box 26 [.sl 4 (encQs l)])] : List (Nat × IBlk))) (px, py) (toQs es) | _, _ => []⟩
theorem hk_impl_MeetingPairs_1 : ∀ args hp, hs_impl_MeetingPairs_1.pre args hp → HCall Try.prog 47 args (sm hp) (hs_impl_MeetingPairs_1.val args hp) (sm (hs_impl_MeetingPairs_1.hval args hp)) := by
  intro args hp h
  unfold hs_impl_MeetingPairs_1 at h ⊢; simp only at h ⊢; split at h
  · obtain ⟨h1, rfl, h2, h3, h4⟩ := h; obtain ⟨l, rfl⟩ := isQ_ex h1; rw [toQs_enc] at *; exact c_impl_MeetingPairs_1 (_, _) l h2 h3 h4
  · exact h.elim
theorem en_impl_MeetingPairs_1 : Enters Try.prog 47 := enters_of Try.func47 (by kernel_rfl) rfl

def g_slices_IndexFunc_impl_Pair_impl_Pair_mp : List (Nat × PSpec) := []
theorem gok_slices_IndexFunc_impl_Pair_impl_Pair_mp : GOK Try.prog g_slices_IndexFunc_impl_Pair_impl_Pair_mp := gok0
def h_slices_IndexFunc_impl_Pair_impl_Pair_mp : List (Nat × HSpec) := [(47, hs_impl_MeetingPairs_1)]
theorem hok_slices_IndexFunc_impl_Pair_impl_Pair_mp : HOK Try.prog h_slices_IndexFunc_impl_Pair_impl_Pair_mp := hok_cons hk_impl_MeetingPairs_1 en_impl_MeetingPairs_1 (hok0)
theorem lh_slices_IndexFunc_impl_Pair_impl_Pair_mp_impl_MeetingPairs_1 : lkHS h_slices_IndexFunc_impl_Pair_impl_Pair_mp 47 = some hs_impl_MeetingPairs_1 := rfl
theorem c_slices_IndexFunc_impl_Pair_impl_Pair_mp (ps : List Pt) (l : List Qd) (hp : ∀ p ∈ ps, (0 ≤ p.1 ∧ p.1 < (l.length : Int)) ∧ (0 ≤ p.2 ∧ p.2 < (l.length : Int))) (hs : okSs l = true) (hsz : ps.length ≤ 1000000) : HCall Try.prog 90 [.ref 1000 0 ps.length true, .clo 47 [.ptr 1001 0]] (sm ([(1000, .arr 2 59 (encPs ps)), (1001, .box 26 [.sl 4 (encQs l)])])) (.num .i64 (idxF (apS l) ps 0)) (sm ([(1000, .arr 2 59 (encPs ps)), (1001, .box 26 [.sl 4 (encQs l)])])) := by
  refine hcall_V (G := g_slices_IndexFunc_impl_Pair_impl_Pair_mp) (H := h_slices_IndexFunc_impl_Pair_impl_Pair_mp) [] tabOK mixed gok_slices_IndexFunc_impl_Pair_impl_Pair_mp hok_slices_IndexFunc_impl_Pair_impl_Pair_mp Try.func90 rfl Try.ntmps90 Try.results90 rfl (by kernel_rfl) fun F hN hlen => ?_
  simp only [sm]
  have el := len_encPs ps
  have hx : ∃ k ty es, IBlk.arr 2 59 (encPs ps) = IBlk.arr k ty es := ⟨_, _, _, rfl⟩
  simp only [V_seq, V_block, V_region, W_nil, W_cons, effOp2, KN_seq, effOp, effPure, pureV, lenV, ofC, strip, lkT, ISt.app, opI, gO, gB, allB, gval, wrapG, dstOK, setD, enumT, Op.operands, Call.operands, List.append_toArray, reduceIte, reduceCtorEq, Nat.reduceLT, Nat.reduceEqDiff, Nat.zero_add, ne_eq, not_false_eq_true, true_and, and_self, implies_true, List.nil_append, List.cons_append, tab32, hN]
  refine V_loop (α := Nat) ⟨tabOK, mixed, gok_slices_IndexFunc_impl_Pair_impl_Pair_mp, hok_slices_IndexFunc_impl_Pair_impl_Pair_mp⟩ (by kernel_rfl) (fun i => i ≤ ps.length ∧ idxF (apS l) ps 0 = idxF (apS l) (ps.drop i) i)
    (fun i => ⟨[(8, .num .i64 i), (7, .num .i64 ps.length), (0, .ref 1000 0 ps.length true), (1, .clo 47 [.ptr 1001 0])], [(1000, some (.arr 2 59 (encPs ps))), (1001, some (.box 26 [.sl 4 (encQs l)]))]⟩) (fun i => ps.length - i) 0 id (by simp) (by simp [SLe, SLe0, convTm, convHp, convB, conv, conv0, convL, lkT, lkH, clean]) ?_
  rintro i ⟨hi2, hj⟩
  simp only [V_seq, V_region, V_cond, W_nil, W_cons, effOp2, KN_seq, asB, effOp, effPure, pureV, binV, strip, lkT, ISt.app, opI, gO, gB, allB, gval, wrapG, dstOK, setD, Op.operands, reduceIte, reduceCtorEq, Nat.reduceLT, Nat.reduceEqDiff, true_and, and_self, implies_true, List.nil_append, List.cons_append, hN]
  refine brW_some (fun h => ?_) (fun h => ?_)
  · have hi' : i < ps.length := by simpa using h
    have g0 := getD_encPs hi'
    have hw := wr_succ hi' (by rw [maxLen_eq]; omega)
    have hst := idxF_step (p := apS l) (d := (0, 0)) hi'
    have hz := hp (pAt ps i) (by rw [pAt, List.getD, List.getElem?_eq_getElem hi']; exact List.getElem_mem hi')
    change _ = if apS l (pAt ps i) = true then _ else _ at hst
    generalize pAt ps i = z at *
    simp only [V_seq, V_skip, V_block, V_region, V_cond, W_nil, W_cons, effOp2, KN_seq, asB, effOp, effPure, Option.isSome_some, skipE, pureV, partV, eltV, loadV, iaddrV, strip, lkT, lkH, ISt.app, opI, gO, gB, allB, gval, wrapG, dstOK, setD, mentTm, mentHp, IV.ment, IV.mentL, lendV, lendP, lent, lentP, idsV, idsL, clean, callArgs, callFn, enumT, conv, conv0, convL, IBlk.shape, Op.operands, reduceIte, reduceCtorEq, cond_true, cond_false, Bool.or_false, Bool.or_true, Bool.and_true, Nat.reduceAdd, Nat.reduceSub, Nat.reduceMul, Nat.reduceLT, Nat.reduceLeDiff, Nat.reduceEqDiff, Nat.reduceBEq, Nat.zero_add, ne_eq, not_false_eq_true, beq_self_eq_true, true_and, and_true, and_false, and_self, implies_true, forall_const, List.map_cons, List.map_nil, List.nil_append, List.cons_append, List.append_nil, List.all_nil, Option.map_some, List.getD_cons_zero, List.length_cons, List.length_nil, List.take_succ_cons, List.take_nil, List.drop_zero, ex_clo, Bool.true_eq_false, Bool.false_eq_true, tab32, tab59, hN, pe, Int.toNat_natCast, isQs_enc, toQs_enc, SLe0, convTm, convHp, convB, sm, effH, mkHC0, mkHC1, lendM, lentM, lentI, allHere, addIds, idsB, flatIds, reach, posn, renV, renL, renB, renH, numB, subHp, fwd, bk, bwd, nones, keyOK, noSl, noSlL, flatBs, List.contains, List.elem, Option.isSome_some, List.nodup_nil, List.nodup_cons, List.not_mem_nil, or_false, Option.getD_some, lh_slices_IndexFunc_impl_Pair_impl_Pair_mp_impl_MeetingPairs_1, hs_impl_MeetingPairs_1, el, g0, hz, hs, Nat.zero_add, Int.toNat_natCast]
    refine ⟨⟨by omega, by omega⟩, by omega, brW_some (fun h => ?_) (fun h => ?_)⟩
    · rw [if_pos h, ← hj] at hst
      simp only [V_seq, V_ret, V_region, W_nil, W_cons, effOp2, KN_seq, KXr_nil, KXr_seq, KXr_block, KXr_back, QE, effOp, effPure, pureV, strip, lkT, lkH, ISt.app, opI, gO, gB, allB, gval, wrapG, dstOK, setD, clean, conv, conv0, Op.operands, reduceIte, reduceCtorEq, Nat.reduceLT, Nat.reduceEqDiff, not_false_eq_true, true_and, and_true, and_self, false_implies, implies_true, List.map_cons, List.map_nil, List.nil_append, List.cons_append, hN, FinH, resA, resV, SLe, SLe0, convTm, convHp, convB, List.nodup_nil, List.nodup_cons, List.not_mem_nil, List.mem_cons, or_false, hst]
      exact ⟨id, by simp [convL, conv, conv0]⟩
    · rw [if_neg (by rw [h]; decide), ← hj] at hst
      simp only [V_skip, V_region, W_nil, W_cons, effOp2, KN_seq, KN_block, KN_back, effOp, effPure, pureV, binV, ofC, strip, lkT, ISt.app, opI, gO, gB, allB, gval, wrapG, dstOK, setD, Op.operands, reduceIte, reduceCtorEq, Nat.reduceLT, Nat.reduceEqDiff, true_and, and_self, implies_true, List.nil_append, List.cons_append, hN, hw]
      exact ⟨i + 1, id, ⟨by omega, hst⟩, by simp only []; omega, by simp [SLe, SLe0, convTm, convHp, convB, conv, conv0, convL, lkT, lkH, clean]⟩
  · have hie : i = ps.length := by simp at h; omega
    subst hie
    rw [List.drop_length] at hj
    simp only [V_seq, V_ret, V_exit, V_region, W_nil, W_cons, effOp2, KN_seq, KXr_nil, KXe_nil, KXe_seq, KXe_block, KXe_back, QE, effOp, effPure, pureV, ofC, strip, lkT, lkH, ISt.app, opI, gO, gB, allB, gval, wrapG, dstOK, setD, clean, conv, conv0, Op.operands, reduceIte, reduceCtorEq, Nat.reduceLT, Nat.reduceEqDiff, not_false_eq_true, true_and, and_true, and_self, false_implies, implies_true, List.map_cons, List.map_nil, List.nil_append, List.cons_append, hN, FinH, resA, resV, SLe, SLe0, convTm, convHp, convB, List.nodup_nil, List.nodup_cons, List.not_mem_nil, List.mem_cons, or_false, hj, idxF]
    exact ⟨id, by simp [convL, conv, conv0]⟩
def hs_slices_IndexFunc_impl_Pair_impl_Pair_mp : HSpec := ⟨[false, false], fun xs hp => match xs, hp with | [.ref 1000 0 n true, .clo 47 [.ptr 1001 0]], [(1000, .arr 2 ty2 ls), (1001, .box ty [.sl 4 es])] => (isPs ls) ∧ (isQs es) ∧ (ty2 = 59) ∧ (ty = 26) ∧ (n = ls.length) ∧ ((fun (ps : List Pt) (l : List Qd) => ∀ p ∈ ps, (0 ≤ p.1 ∧ p.1 < (l.length : Int)) ∧ (0 ≤ p.2 ∧ p.2 < (l.length : Int))) (toPs ls) (toQs es)) ∧ ((fun (ps : List Pt) (l : List Qd) => okSs l = true) (toPs ls) (toQs es)) ∧ ((fun (ps : List Pt) (l : List Qd) => ps.length ≤ 1000000) (toPs ls) (toQs es)) | _, _ => False, fun xs hp => match xs, hp with | [.ref 1000 0 n true, .clo 47 [.ptr 1001 0]], [(1000, .arr 2 ty2 ls), (1001, .box ty [.sl 4 es])] => (fun (ps : List Pt) (l : List Qd) => (.num .i64 (idxF (apS l) ps 0) : IV)) (toPs ls) (toQs es) | _, _ => .junk, fun xs hp => match xs, hp with | [.ref 1000 0 n true, .clo 47 [.ptr 1001 0]], [(1000, .arr 2 ty2 ls), (1001, .box ty [.sl 4 es])] => (fun (ps : List Pt) (l : List Qd) => ([(1000, .arr 2 59 (encPs ps)), (1001, .box 26 [.sl 4 (encQs l)])] : List (Nat × IBlk))) (toPs ls) (toQs es) | _, _ => []⟩
theorem hk_slices_IndexFunc_impl_Pair_impl_Pair_mp : ∀ args hp, hs_slices_IndexFunc_impl_Pair_impl_Pair_mp.pre args hp → HCall Try.prog 90 args (sm hp) (hs_slices_IndexFunc_impl_Pair_impl_Pair_mp.val args hp) (sm (hs_slices_IndexFunc_impl_Pair_impl_Pair_mp.hval args hp)) := by
  intro args hp h
  unfold hs_slices_IndexFunc_impl_Pair_impl_Pair_mp at h ⊢; simp only at h ⊢; split at h
  · obtain ⟨h0, h1, rfl, rfl, rfl, h2, h3, h4⟩ := h; obtain ⟨w, rfl⟩ := isP_ex h0; obtain ⟨l, rfl⟩ := isQ_ex h1; rw [toPs_enc, toQs_enc] at *; rw [len_encPs]; exact c_slices_IndexFunc_impl_Pair_impl_Pair_mp w l h2 h3 h4
  · exact h.elim
theorem en_slices_IndexFunc_impl_Pair_impl_Pair_mp : Enters Try.prog 90 := enters_of Try.func90 (by kernel_rfl) rfl

theorem idxF_ex {α : Type} {p : α → Bool} : ∀ {l : List α} (d : α) (k : Nat), (idxF p l k = -1 ∧ ∀ x ∈ l, p x = false) ∨ ∃ f, f < l.length ∧ idxF p l k = ((k + f : Nat) : Int) ∧ p (l.getD f d) = true ∧ ∀ x ∈ l.take f, p x = false
  | [], d, k => .inl ⟨rfl, fun x h => by cases h⟩
  | x :: l, d, k => by
    by_cases c : p x = true
    · exact .inr ⟨0, by simp, by rw [idxF, if_pos c]; simp, by simpa using c, fun y h => by simp at h⟩
    · rcases idxF_ex (l := l) d (k + 1) with ⟨h1, h2⟩ | ⟨f, f1, f2, f3, f4⟩
      · refine .inl ⟨by rw [idxF, if_neg c, h1], fun y hy => ?_⟩
        rcases List.mem_cons.1 hy with e | hy
        · rw [e]; simpa using c
        · exact h2 y hy
      · refine .inr ⟨f + 1, by simpa using f1, by rw [idxF, if_neg c, f2]; congr 1; omega, by simpa using f3, fun y hy => ?_⟩
        rw [List.take_succ_cons] at hy
        rcases List.mem_cons.1 hy with e | hy
        · rw [e]; simpa using c
        · exact f4 y hy
theorem getD_set_neP {l : List Pt} {m q : Nat} (h : m ≠ q) (x : Pt) : pAt (l.set m x) q = pAt l q := by
  simp [pAt, List.getD, List.getElem?_set_ne h]
theorem take_set_succP {l : List Pt} {m : Nat} (hm : m < l.length) (x : Pt) : (l.set m x).take (m + 1) = l.take m ++ [x] := by
  rw [take_succ_g (d := (0, 0)) (by simpa using hm), List.take_set_of_le (Nat.le_refl _)]
  simp [List.getD, hm]
def meetL (l : List Qd) (ps : List Pt) : List Pt := ps.filter fun p => !apS l p
def g_slices_DeleteFunc_impl_Pair_impl_Pair_mp : List (Nat × PSpec) := []
theorem gok_slices_DeleteFunc_impl_Pair_impl_Pair_mp : GOK Try.prog g_slices_DeleteFunc_impl_Pair_impl_Pair_mp := gok0
def h_slices_DeleteFunc_impl_Pair_impl_Pair_mp : List (Nat × HSpec) := [(90, hs_slices_IndexFunc_impl_Pair_impl_Pair_mp), (47, hs_impl_MeetingPairs_1)]
theorem hok_slices_DeleteFunc_impl_Pair_impl_Pair_mp : HOK Try.prog h_slices_DeleteFunc_impl_Pair_impl_Pair_mp := hok_cons hk_slices_IndexFunc_impl_Pair_impl_Pair_mp en_slices_IndexFunc_impl_Pair_impl_Pair_mp (hok_cons hk_impl_MeetingPairs_1 en_impl_MeetingPairs_1 (hok0))
theorem lh_slices_DeleteFunc_impl_Pair_impl_Pair_mp_slices_IndexFunc_impl_Pair_impl_Pair_mp : lkHS h_slices_DeleteFunc_impl_Pair_impl_Pair_mp 90 = some hs_slices_IndexFunc_impl_Pair_impl_Pair_mp := rfl
theorem lh_slices_DeleteFunc_impl_Pair_impl_Pair_mp_impl_MeetingPairs_1 : lkHS h_slices_DeleteFunc_impl_Pair_impl_Pair_mp 47 = some hs_impl_MeetingPairs_1 := rfl
theorem c_slices_DeleteFunc_impl_Pair_impl_Pair_mp (ps : List Pt) (l : List Qd) (hp : ∀ p ∈ ps, (0 ≤ p.1 ∧ p.1 < (l.length : Int)) ∧ (0 ≤ p.2 ∧ p.2 < (l.length : Int))) (hs : okSs l = true) (hsz : ps.length ≤ 1000000) : HCall Try.prog 46 [.ref 1000 0 ps.length true, .clo 47 [.ptr 1001 0]] (sm ([(1000, .arr 2 59 (encPs ps)), (1001, .box 26 [.sl 4 (encQs l)])])) (.ref 1000 0 (meetL l ps).length true) (sm ([(1000, .arr 2 59 (encPs (meetL l ps))), (1001, .box 26 [.sl 4 (encQs l)])])) := by
  refine hcall_V (G := g_slices_DeleteFunc_impl_Pair_impl_Pair_mp) (H := h_slices_DeleteFunc_impl_Pair_impl_Pair_mp) [] tabOK mixed gok_slices_DeleteFunc_impl_Pair_impl_Pair_mp hok_slices_DeleteFunc_impl_Pair_impl_Pair_mp Try.func46 rfl Try.ntmps46 Try.results46 rfl (by kernel_rfl) fun F hN hlen => ?_
  simp only [sm]
  have el := len_encPs ps
  have hx : ∃ k ty es, IBlk.arr 2 59 (encPs ps) = IBlk.arr k ty es := ⟨_, _, _, rfl⟩
  have hl : ps.length ≤ maxLen := by rw [maxLen_eq]; omega
  have hall : ∀ q, q < ps.length → (0 ≤ (pAt ps q).1 ∧ (pAt ps q).1 < (l.length : Int)) ∧ (0 ≤ (pAt ps q).2 ∧ (pAt ps q).2 < (l.length : Int)) := fun q hq => hp _ (by rw [pAt, List.getD, List.getElem?_eq_getElem hq]; exact List.getElem_mem hq)
  rcases idxF_ex (p := apS l) (l := ps) (0, 0) 0 with ⟨h1, h2⟩ | ⟨f, f1, f2, f3, f4⟩
  · have hm : meetL l ps = ps := List.filter_eq_self.2 fun x hx => by rw [h2 x hx]; rfl
    have d1 : ((-1 : Int) == -1) = true := rfl
    have tp := take_encPs ps
    simp only [V_seq, V_ret, V_region, V_cond, brW_true, W_nil, W_cons, effOp2, KN_seq, KXr_nil, KXr_seq, QE, asB, effOp, effPure, Option.isSome_some, skipE, pureV, binV, ofC, strip, lkT, lkH, ISt.app, opI, gO, gB, allB, gval, wrapG, dstOK, setD, mentTm, mentHp, IV.ment, IV.mentL, idsV, idsL, clean, callArgs, callFn, enumT, conv, conv0, convL, IBlk.shape, Op.operands, reduceIte, reduceCtorEq, cond_true, cond_false, Bool.or_false, Bool.or_true, Bool.and_true, Bool.and_false, Nat.reduceAdd, Nat.reduceSub, Nat.reduceMul, Nat.reduceLT, Nat.reduceLeDiff, Nat.reduceEqDiff, Nat.reduceBEq, Nat.zero_add, not_false_eq_true, beq_self_eq_true, true_and, and_true, and_false, and_self, false_implies, implies_true, List.map_cons, List.map_nil, List.nil_append, List.cons_append, List.append_nil, List.all_nil, Option.map_some, List.getD_cons_zero, List.getD_cons_succ, ex_clo, or_self, Bool.true_eq_false, Bool.false_eq_true, hN, isPs_enc, toPs_enc, isQs_enc, toQs_enc, FinH, resA, resV, SLe, SLe0, convTm, convHp, convB, sm, effH, mkHC0, mkHC1, lendM, lentM, lentI, allHere, addIds, idsB, flatIds, reach, posn, renV, renL, renB, renH, numB, subHp, fwd, bk, bwd, nones, keyOK, noSl, noSlL, flatBs, List.contains, List.elem, Option.isSome_some, List.nodup_nil, List.nodup_cons, List.not_mem_nil, List.mem_cons, or_false, Option.getD_some, lh_slices_DeleteFunc_impl_Pair_impl_Pair_mp_slices_IndexFunc_impl_Pair_impl_Pair_mp, hs_slices_IndexFunc_impl_Pair_impl_Pair_mp, el, hs, hsz, h1, hm, tp]
    exact ⟨hp, fun i => i, by simp [convL, conv, conv0], fun _ _ _ => rfl⟩
  · have d1 : ((f : Int) == -1) = false := by rw [beq_eq_false_iff_ne]; omega
    rw [Nat.zero_add] at f2
    have w1 := wr_succ f1 hl
    have tp := take_encPs ps
    simp only [V_seq, V_skip, V_block, V_region, V_cond, brW_false, W_nil, W_cons, effOp2, KN_seq, asB, effOp, effPure, Option.isSome_some, skipE, pureV, binV, ofC, strip, lkT, lkH, ISt.app, opI, gO, gB, allB, gval, wrapG, dstOK, setD, mentTm, mentHp, IV.ment, IV.mentL, idsV, idsL, clean, callArgs, callFn, enumT, conv, conv0, convL, IBlk.shape, Op.operands, reduceIte, reduceCtorEq, cond_true, cond_false, Bool.or_false, Bool.or_true, Bool.and_true, Bool.and_false, Nat.reduceAdd, Nat.reduceSub, Nat.reduceMul, Nat.reduceLT, Nat.reduceLeDiff, Nat.reduceEqDiff, Nat.reduceBEq, Nat.zero_add, not_false_eq_true, beq_self_eq_true, true_and, and_true, and_false, and_self, implies_true, List.map_cons, List.map_nil, List.nil_append, List.cons_append, List.append_nil, List.all_nil, Option.map_some, List.getD_cons_zero, List.getD_cons_succ, ex_clo, or_self, Bool.true_eq_false, Bool.false_eq_true, hN, isPs_enc, toPs_enc, isQs_enc, toQs_enc, SLe0, convTm, convHp, convB, sm, effH, mkHC0, mkHC1, lendM, lentM, lentI, allHere, addIds, idsB, flatIds, reach, posn, renV, renL, renB, renH, numB, subHp, fwd, bk, bwd, nones, keyOK, noSl, noSlL, flatBs, List.contains, List.elem, Option.isSome_some, List.nodup_nil, List.nodup_cons, List.not_mem_nil, List.mem_cons, or_false, Option.getD_some, lh_slices_DeleteFunc_impl_Pair_impl_Pair_mp_slices_IndexFunc_impl_Pair_impl_Pair_mp, hs_slices_IndexFunc_impl_Pair_impl_Pair_mp, el, hs, hsz, f2, d1, w1, tp]
    refine ⟨hp, ?_⟩
    refine V_loop (α := Nat × Nat × List Pt) ⟨tabOK, mixed, gok_slices_DeleteFunc_impl_Pair_impl_Pair_mp, hok_slices_DeleteFunc_impl_Pair_impl_Pair_mp⟩ (by kernel_rfl)
      (fun b => b.1 ≤ ps.length ∧ b.2.2.length = ps.length ∧ b.2.1 < b.1 ∧ b.2.2.take b.2.1 = meetL l (ps.take b.1) ∧ ∀ q, b.1 ≤ q → q < ps.length → pAt b.2.2 q = pAt ps q)
      (fun b => ⟨[(6, .num .i64 b.1), (5, .num .i64 b.2.1), (0, .ref 1000 0 ps.length true), (1, .clo 47 [.ptr 1001 0])], [(1000, some (.arr 2 59 (encPs b.2.2))), (1001, some (.box 26 [.sl 4 (encQs l)]))]⟩) (fun b => ps.length - b.1) (f + 1, f, ps) id
      ⟨by simp only []; omega, rfl, by simp only []; omega, ?_, fun q _ _ => rfl⟩ (by simp [SLe, SLe0, convTm, convHp, convB, conv, conv0, convL, lkT, lkH, clean]) ?_
    · simp only []
      rw [take_succ_g (d := (0, 0)) f1, meetL, List.filter_append, List.filter_eq_self.2 (fun x hx => by rw [f4 x hx]; rfl)]
      have e : List.filter (fun p => !apS l p) [ps.getD f (0, 0)] = [] := by rw [List.filter_cons, f3]; rfl
      rw [e, List.append_nil]
    · rintro ⟨j, i, A⟩ ⟨b1, b2, b3, b4, b5⟩
      simp only at b1 b2 b3 b4 b5
      have hx : ∃ k ty es, IBlk.arr 2 59 (encPs A) = IBlk.arr k ty es := ⟨_, _, _, rfl⟩
      have eA := len_encPs A
      simp only [V_seq, V_region, V_cond, W_nil, W_cons, effOp2, KN_seq, asB, effOp, effPure, pureV, binV, lenV, strip, lkT, ISt.app, opI, gO, gB, allB, gval, wrapG, dstOK, setD, Op.operands, Call.operands, List.append_toArray, reduceIte, reduceCtorEq, Nat.reduceLT, Nat.reduceEqDiff, ne_eq, not_false_eq_true, true_and, and_self, implies_true, List.nil_append, List.cons_append, tab32, hN]
      refine brW_some (fun h2 => ?_) (fun h2 => ?_)
      · have hj : j < ps.length := by simp at h2; omega
        have g3 := getD_encPs (show j < A.length by omega)
        have hw := wr_succ hj hl
        have hw2 := wr_succ (show i < ps.length by omega) hl
        have hz := hall j hj
        have hat := b5 j (Nat.le_refl _) hj
        have hst : meetL l (ps.take (j + 1)) = meetL l (ps.take j) ++ if apS l (pAt ps j) then [] else [pAt ps j] := by
          rw [take_succ_g (d := (0, 0)) hj, meetL, List.filter_append]
          congr 1
          show List.filter (fun p => !apS l p) [pAt ps j] = _
          rw [List.filter_cons, List.filter_nil]
          cases apS l (pAt ps j) <;> rfl
        rw [hat] at g3
        obtain ⟨z, hz0⟩ : ∃ z, pAt ps j = z := ⟨_, rfl⟩
        rw [hz0] at g3 hz hst
        cases ha : apS l z with
        | true =>
          rw [ha] at hst
          simp only [V_seq, V_skip, V_block, V_region, V_cond, brW_false, W_nil, W_cons, effOp2, KN_seq, KN_block, KN_back, asB, effOp, effPure, effNew, effAlloc, effStore, Option.isSome_some, skipE, pureV, storeV, binV, partV, eltV, loadV, iaddrV, over, solid, IV.cells, ofC, strip, lkT, lkH, ISt.app, opI, gO, gB, allB, gval, wrapG, dstOK, setD, mentTm, mentHp, IV.ment, IV.mentL, oneI, lendV, lendP, lent, lentP, idsV, idsL, clean, callArgs, callFn, enumT, conv, conv0, convL, IBlk.shape, Op.operands, reduceIte, reduceCtorEq, cond_true, cond_false, Bool.or_false, Bool.or_true, Bool.and_true, Bool.not_true, Nat.reduceAdd, Nat.reduceSub, Nat.reduceMul, Nat.reduceLT, Nat.reduceLeDiff, Nat.reduceEqDiff, Nat.reduceBEq, Nat.zero_add, ne_eq, not_false_eq_true, beq_self_eq_true, true_and, and_true, and_false, and_self, implies_true, forall_const, List.map_cons, List.map_nil, List.nil_append, List.cons_append, List.append_nil, List.all_cons, List.all_nil, Option.map_some, List.getD_cons_zero, List.length_cons, List.length_nil, List.take_succ_cons, List.take_zero, List.take_nil, List.drop_succ_cons, List.drop_zero, List.drop_nil, ex_clo, Bool.true_eq_false, Bool.false_eq_true, tab32, tab59, hN, pe, Int.toNat_natCast, isQs_enc, toQs_enc, SLe0, convTm, convHp, convB, sm, effH, mkHC0, mkHC1, lendM, lentM, lentI, allHere, addIds, idsB, flatIds, reach, posn, renV, renL, renB, renH, numB, subHp, fwd, bk, bwd, nones, keyOK, noSl, noSlL, flatBs, List.contains, List.elem, Option.isSome_some, List.nodup_nil, List.nodup_cons, List.not_mem_nil, or_false, Option.getD_some, lh_slices_DeleteFunc_impl_Pair_impl_Pair_mp_impl_MeetingPairs_1, hs_impl_MeetingPairs_1, eA, g3, hw, hz, hs, ha, Nat.zero_add, Int.toNat_natCast]
          rw [if_pos rfl, List.append_nil] at hst
          exact ⟨⟨by omega, by omega⟩, by omega, (j + 1, i, A), id, ⟨by simp only []; omega, b2, by simp only []; omega, by simp only []; rw [hst]; exact b4, fun q h4 h5 => b5 q (by simp only [] at h4; omega) h5⟩, by simp only []; omega, by simp [SLe, SLe0, convTm, convHp, convB, conv, conv0, convL, lkT, lkH, clean]⟩
        | false =>
          rw [ha] at hst
          have hset := encPs_set A i z
          simp only [V_seq, V_skip, V_block, V_region, V_cond, brW_true, W_nil, W_cons, effOp2, KN_seq, KN_block, KN_back, asB, effOp, effPure, effNew, effAlloc, effStore, Option.isSome_some, skipE, pureV, storeV, binV, partV, eltV, loadV, iaddrV, over, solid, IV.cells, ofC, strip, lkT, lkH, ISt.app, opI, gO, gB, allB, gval, wrapG, dstOK, setD, mentTm, mentHp, IV.ment, IV.mentL, eltI, oneI, noId', lendV, lendP, lent, lentP, idsV, idsL, clean, callArgs, callFn, enumT, conv, conv0, convL, IBlk.shape, Op.operands, reduceIte, reduceCtorEq, cond_true, cond_false, Bool.or_false, Bool.or_true, Bool.and_true, Bool.true_and, Bool.not_false, Nat.reduceAdd, Nat.reduceSub, Nat.reduceMul, Nat.reduceLT, Nat.reduceLeDiff, Nat.reduceEqDiff, Nat.reduceBEq, Nat.zero_add, ne_eq, not_false_eq_true, beq_self_eq_true, true_and, and_true, and_false, and_self, implies_true, forall_const, List.map_cons, List.map_nil, List.nil_append, List.cons_append, List.append_nil, List.all_cons, List.all_nil, Option.map_some, List.getD_cons_zero, List.length_cons, List.length_nil, List.take_succ_cons, List.take_zero, List.take_nil, List.drop_succ_cons, List.drop_zero, List.drop_nil, ex_clo, Bool.true_eq_false, Bool.false_eq_true, tab32, tab59, hN, pe, Int.toNat_natCast, isQs_enc, toQs_enc, SLe0, convTm, convHp, convB, sm, effH, mkHC0, mkHC1, lendM, lentM, lentI, allHere, addIds, idsB, flatIds, reach, posn, renV, renL, renB, renH, numB, subHp, fwd, bk, bwd, nones, keyOK, noSl, noSlL, flatBs, List.contains, List.elem, Option.isSome_some, List.nodup_nil, List.nodup_cons, List.not_mem_nil, or_false, Option.getD_some, lh_slices_DeleteFunc_impl_Pair_impl_Pair_mp_impl_MeetingPairs_1, hs_impl_MeetingPairs_1, eA, g3, hw, hw2, hz, hs, ha, Nat.zero_add, Int.toNat_natCast]
          rw [if_neg (by decide)] at hst
          refine ⟨⟨by omega, by omega⟩, by omega, ⟨by omega, by omega⟩, by omega, (j + 1, i + 1, A.set i z), id, ⟨by simp only []; omega, by simpa using b2, by simp only []; omega, ?_, fun q h4 h5 => ?_⟩, by simp only []; omega, by simp [SLe, SLe0, convTm, convHp, convB, conv, conv0, convL, lkT, lkH, clean, hset]⟩
          · simp only []
            rw [take_set_succP (by omega), b4, hst]
          · simp only [] at h4 ⊢
            rw [getD_set_neP (by omega)]
            exact b5 q (by omega) h5
      · have hjl : j = ps.length := by simp at h2; omega
        have hcp : meetL l ps = A.take i := by rw [b4, hjl, List.take_length]
        have hcl : (meetL l ps).length = i := by rw [hcp, List.length_take]; omega
        simp only [V_seq, V_ret, V_exit, V_region, W_nil, W_cons, effOp2, KN_seq, KXr_nil, KXe_nil, KXe_seq, KXe_block, KXe_back, QE, effOp, effPure, Option.isSome_some, effClear, pureV, sliceV, strip, lkT, lkH, ISt.app, opI, gO, gB, allB, gval, wrapG, dstOK, setD, zeroElt, noId', conv, conv0, Op.operands, List.append_toArray, Array.append_empty, Option.toArray_none, Option.toArray_some, reduceIte, reduceCtorEq, cond_true, Bool.and_true, Nat.reduceLT, Nat.reduceLeDiff, Nat.reduceEqDiff, Nat.zero_add, ne_eq, not_false_eq_true, true_and, and_true, and_self, false_implies, implies_true, forall_const, List.map_cons, List.map_nil, List.nil_append, List.cons_append, List.all_cons, List.all_nil, Option.map_some, Option.map_none, tab32, tab59, hN, Int.toNat_natCast, FinH, resA, resV, SLe, SLe0, convTm, convHp, convB, Option.isSome_some, List.nodup_nil, List.nodup_cons, List.not_mem_nil, List.mem_cons, or_false, eA, Nat.zero_add, Int.toNat_natCast]
        refine ⟨⟨by omega, by omega⟩, by omega, ⟨by omega, by omega⟩, id, ?_⟩
        simp [hcl, len_encPs, convL, conv, conv0]
        rw [List.take_append_of_le_length (by simp [len_encPs]; omega), encPs_take, encPs_take, List.take_take, Nat.min_self, hcp]
def hs_slices_DeleteFunc_impl_Pair_impl_Pair_mp : HSpec := ⟨[false, false], fun xs hp => match xs, hp with | [.ref 1000 0 n true, .clo 47 [.ptr 1001 0]], [(1000, .arr 2 ty2 ls), (1001, .box ty [.sl 4 es])] => (isPs ls) ∧ (isQs es) ∧ (ty2 = 59) ∧ (ty = 26) ∧ (n = ls.length) ∧ ((fun (ps : List Pt) (l : List Qd) => ∀ p ∈ ps, (0 ≤ p.1 ∧ p.1 < (l.length : Int)) ∧ (0 ≤ p.2 ∧ p.2 < (l.length : Int))) (toPs ls) (toQs es)) ∧ ((fun (ps : List Pt) (l : List Qd) => okSs l = true) (toPs ls) (toQs es)) ∧ ((fun (ps : List Pt) (l : List Qd) => ps.length ≤ 1000000) (toPs ls) (toQs es)) | _, _ => False, fun xs hp => match xs, hp with | [.ref 1000 0 n true, .clo 47 [.ptr 1001 0]], [(1000, .arr 2 ty2 ls), (1001, .box ty [.sl 4 es])] => (fun (ps : List Pt) (l : List Qd) => (.ref 1000 0 (meetL l ps).length true : IV)) (toPs ls) (toQs es) | _, _ => .junk, fun xs hp => match xs, hp with | [.ref 1000 0 n true, .clo 47 [.ptr 1001 0]], [(1000, .arr 2 ty2 ls), (1001, .box ty [.sl 4 es])] => (fun (ps : List Pt) (l : List Qd) => ([(1000, .arr 2 59 (encPs (meetL l ps))), (1001, .box 26 [.sl 4 (encQs l)])] : List (Nat × IBlk))) (toPs ls) (toQs es) | _, _ => []⟩
theorem hk_slices_DeleteFunc_impl_Pair_impl_Pair_mp : ∀ args hp, hs_slices_DeleteFunc_impl_Pair_impl_Pair_mp.pre args hp → HCall Try.prog 46 args (sm hp) (hs_slices_DeleteFunc_impl_Pair_impl_Pair_mp.val args hp) (sm (hs_slices_DeleteFunc_impl_Pair_impl_Pair_mp.hval args hp)) := by
  intro args hp h
  unfold hs_slices_DeleteFunc_impl_Pair_impl_Pair_mp at h ⊢; simp only at h ⊢; split at h
  · obtain ⟨h0, h1, rfl, rfl, rfl, h2, h3, h4⟩ := h; obtain ⟨w, rfl⟩ := isP_ex h0; obtain ⟨l, rfl⟩ := isQ_ex h1; rw [toPs_enc, toQs_enc] at *; rw [len_encPs]; exact c_slices_DeleteFunc_impl_Pair_impl_Pair_mp w l h2 h3 h4
  · exact h.elim
theorem en_slices_DeleteFunc_impl_Pair_impl_Pair_mp : Enters Try.prog 46 := enters_of Try.func46 (by kernel_rfl) rfl

def g_slices_Clip_impl_Pair_impl_Pair : List (Nat × PSpec) := []
theorem gok_slices_Clip_impl_Pair_impl_Pair : GOK Try.prog g_slices_Clip_impl_Pair_impl_Pair := gok0
def h_slices_Clip_impl_Pair_impl_Pair : List (Nat × HSpec) := []
theorem hok_slices_Clip_impl_Pair_impl_Pair : HOK Try.prog h_slices_Clip_impl_Pair_impl_Pair := hok0
theorem c_slices_Clip_impl_Pair_impl_Pair (l : List Pt) (n : Nat) (full : Bool) (hn : n ≤ l.length) : HCall Try.prog 45 [.ref 1000 0 n full] (sm ([(1000, .arr 2 59 (encPs l))])) (.ref 1000 0 n false) (sm ([(1000, .arr 2 59 (encPs l))])) := by
  refine hcall_V (G := g_slices_Clip_impl_Pair_impl_Pair) (H := []) [] tabOK mixed gok_slices_Clip_impl_Pair_impl_Pair hok_slices_Clip_impl_Pair_impl_Pair Try.func45 rfl Try.ntmps45 Try.results45 rfl (by kernel_rfl) fun F hN hlen => ?_
  simp only [sm]
  simp only [V_seq, V_ret, V_region, W_nil, W_cons, effOp2, KN_seq, KXr_nil, QE, effOp, effPure, Option.isSome_some, pureV, sliceV, lenV, ofC, strip, lkT, lkH, ISt.app, opI, gO, gB, allB, gval, wrapG, dstOK, setD, enumT, conv, conv0, Op.operands, Call.operands, List.append_toArray, Array.append_empty, Option.toArray_none, Option.toArray_some, reduceIte, reduceCtorEq, Nat.reduceLT, Nat.reduceEqDiff, ne_eq, not_false_eq_true, true_and, and_true, and_self, false_implies, implies_true, forall_const, List.map_cons, List.map_nil, List.nil_append, List.cons_append, Option.map_some, Option.map_none, Bool.false_eq_true, tab32, tab59, hN, Int.toNat_natCast, FinH, resA, resV, SLe, SLe0, convTm, convHp, convB]
  exact ⟨⟨by omega, by omega⟩, fun i => i, by simp, fun _ _ _ => rfl⟩
def hs_slices_Clip_impl_Pair_impl_Pair : HSpec := ⟨[false], fun xs hp => match xs, hp with | [.ref 1000 0 n full], [(1000, .arr 2 ty es)] => (isPs es) ∧ (ty = 59) ∧ ((fun (l : List Pt) (n : Nat) (full : Bool) => n ≤ l.length) (toPs es) n full) | _, _ => False, fun xs hp => match xs, hp with | [.ref 1000 0 n full], [(1000, .arr 2 ty es)] => (fun (l : List Pt) (n : Nat) (full : Bool) => (.ref 1000 0 n false : IV)) (toPs es) n full | _, _ => .junk, fun xs hp => match xs, hp with | [.ref 1000 0 n full], [(1000, .arr 2 ty es)] => (fun (l : List Pt) (n : Nat) (full : Bool) => ([(1000, .arr 2 59 (encPs l))] : List (Nat × IBlk))) (toPs es) n full | _, _ => []⟩
theorem hk_slices_Clip_impl_Pair_impl_Pair : ∀ args hp, hs_slices_Clip_impl_Pair_impl_Pair.pre args hp → HCall Try.prog 45 args (sm hp) (hs_slices_Clip_impl_Pair_impl_Pair.val args hp) (sm (hs_slices_Clip_impl_Pair_impl_Pair.hval args hp)) := by
  intro args hp h
  unfold hs_slices_Clip_impl_Pair_impl_Pair at h ⊢; simp only at h ⊢; split at h
  · obtain ⟨h1, rfl, h2⟩ := h; obtain ⟨l, rfl⟩ := isP_ex h1; rw [toPs_enc] at *; exact c_slices_Clip_impl_Pair_impl_Pair l _ _ h2
  · exact h.elim
theorem en_slices_Clip_impl_Pair_impl_Pair : Enters Try.prog 45 := enters_of Try.func45 (by kernel_rfl) rfl

def g_impl_MeetingPairs : List (Nat × PSpec) := [(38, sp_impl_segmentsOk)]
theorem gok_impl_MeetingPairs : GOK Try.prog g_impl_MeetingPairs := gok_cons gk_impl_segmentsOk en_impl_segmentsOk (gok0)
theorem lk_impl_MeetingPairs_impl_segmentsOk : lkG g_impl_MeetingPairs 38 = sp_impl_segmentsOk := rfl
def h_impl_MeetingPairs : List (Nat × HSpec) := [(40, hs_impl_pairs_h), (46, hs_slices_DeleteFunc_impl_Pair_impl_Pair_mp), (45, hs_slices_Clip_impl_Pair_impl_Pair)]
theorem hok_impl_MeetingPairs : HOK Try.prog h_impl_MeetingPairs := hok_cons hk_impl_pairs_h en_impl_pairs_h (hok_cons hk_slices_DeleteFunc_impl_Pair_impl_Pair_mp en_slices_DeleteFunc_impl_Pair_impl_Pair_mp (hok_cons hk_slices_Clip_impl_Pair_impl_Pair en_slices_Clip_impl_Pair_impl_Pair (hok0)))
theorem lh_impl_MeetingPairs_impl_segmentsOk : lkHS h_impl_MeetingPairs 38 = none := rfl
theorem lh_impl_MeetingPairs_impl_pairs_h : lkHS h_impl_MeetingPairs 40 = some hs_impl_pairs_h := rfl
theorem lh_impl_MeetingPairs_slices_DeleteFunc_impl_Pair_impl_Pair_mp : lkHS h_impl_MeetingPairs 46 = some hs_slices_DeleteFunc_impl_Pair_impl_Pair_mp := rfl
theorem lh_impl_MeetingPairs_slices_Clip_impl_Pair_impl_Pair : lkHS h_impl_MeetingPairs 45 = some hs_slices_Clip_impl_Pair_impl_Pair := rfl
theorem c_impl_MeetingPairs (l : List Qd) (hs : okSs l = true) : ICall Try.prog 12 [.sl 4 (encQs l)] (.sl 2 (encPs (meetL l (prs l.length l.length)))) := by
  refine icall_V (G := g_impl_MeetingPairs) (H := h_impl_MeetingPairs) [] tabOK mixed gok_impl_MeetingPairs hok_impl_MeetingPairs Try.func12 rfl Try.ntmps12 Try.results12 rfl (by kernel_rfl) fun F hN hlen => ?_
  have el := len_encQs l
  have h12 := okSs_len hs
  have hp : ∀ p ∈ prs l.length l.length, (0 ≤ p.1 ∧ p.1 < (l.length : Int)) ∧ (0 ≤ p.2 ∧ p.2 < (l.length : Int)) := fun p hp => prs_in hp
  have hz : (prs l.length l.length).length ≤ 1000000 := by
    have := prs_len l.length l.length
    have h4 : l.length * l.length ≤ 12 * 12 := Nat.mul_le_mul (by omega) (by omega)
    omega
  have h0 : l.length ≤ 1000 := by omega
  obtain ⟨ps, hps⟩ : ∃ ps, prs l.length l.length = ps := ⟨_, rfl⟩
  rw [hps] at hp hz
  have tp := take_encPs ps
  have ep := len_encPs ps
  obtain ⟨ms, hms⟩ : ∃ ms, meetL l ps = ms := ⟨_, rfl⟩
  have tm := take_encPs ms
  have em := len_encPs ms
  rw [hps, hms]
  simp only [V_seq, V_skip, V_ret, V_region, V_cond, brW_false, W_nil, W_cons, effOp2, KN_seq, KXr_nil, QE, asB, effOp, effPure, effNew, effBox, effCall, giveUp, hasAll, Option.isSome_some, skipE, pureV, partV, loadV, lenV, solid, IV.cells, ofC, strip, lkT, lkH, ISt.app, opI, gO, gB, allB, gval, wrapG, dstOK, setD, mentTm, mentHp, IV.ment, IV.mentL, oneI, lendV, lendP, lent, lentP, idsV, idsL, flat, clean, callArgs, callFn, allLent, enumT, Gives, Ideal.Fin, conv, conv0, convL, IBlk.shape, Op.operands, Call.operands, List.append_toArray, reduceIte, reduceCtorEq, cond_true, cond_false, Bool.or_false, Bool.or_true, Bool.and_true, Bool.and_false, Bool.not_true, Bool.not_false, Nat.reduceAdd, Nat.reduceSub, Nat.reduceMul, Nat.reduceLT, Nat.reduceLeDiff, Nat.reduceEqDiff, Nat.reduceBEq, Nat.add_zero, Nat.zero_add, ne_eq, not_false_eq_true, beq_self_eq_true, true_and, and_true, and_false, and_self, false_implies, implies_true, List.map_cons, List.map_nil, List.nil_append, List.cons_append, List.append_nil, List.all_cons, List.all_nil, Option.some.injEq, Option.map_some, Option.map_none, List.getD_cons_zero, List.getD_cons_succ, List.length_cons, List.length_nil, List.take_succ_cons, List.take_nil, List.drop_zero, ex_clo, true_or, or_self, Bool.true_eq_false, Bool.false_eq_true, tab26, hN, Int.toNat_natCast, isPs_enc, toPs_enc, isQs_enc, toQs_enc, SLe0, convTm, convHp, convB, sm, effH, mkHC0, mkHC1, lendM, lentM, lentI, allHere, addIds, idsB, flatIds, reach, posn, renV, renL, renB, renH, numB, subHp, fwd, bk, bwd, nones, keyOK, noSl, noSlL, flatBs, List.contains, List.elem, Option.isSome_some, Option.isSome_none, List.nodup_nil, List.nodup_cons, List.not_mem_nil, List.mem_cons, or_false, Option.getD_some, lk_impl_MeetingPairs_impl_segmentsOk, sp_impl_segmentsOk, lh_impl_MeetingPairs_impl_segmentsOk, lh_impl_MeetingPairs_impl_pairs_h, lh_impl_MeetingPairs_slices_DeleteFunc_impl_Pair_impl_Pair_mp, lh_impl_MeetingPairs_slices_Clip_impl_Pair_impl_Pair, hs_impl_pairs_h, hs_slices_DeleteFunc_impl_Pair_impl_Pair_mp, hs_slices_Clip_impl_Pair_impl_Pair, el, hs, hz, h0, hps, tp, ep, hms, tm, em, Int.toNat_natCast]
  exact ⟨hp, Nat.le_refl _, _, _, rfl, by omega, tm.symm⟩
def sp_impl_MeetingPairs : PSpec := ⟨fun xs => match xs with | [.sl 4 les] => isQs les ∧ ((fun (l : List Qd) => okSs l = true) (toQs les)) | _ => False, fun xs => match xs with | [.sl _ les] => (fun (l : List Qd) => .sl 2 (encPs (meetL l (prs l.length l.length)))) (toQs les) | _ => .junk, false⟩
theorem gk_impl_MeetingPairs : ∀ args, sp_impl_MeetingPairs.pre args → ICall Try.prog 12 args (sp_impl_MeetingPairs.val args) := by
  intro args h
  unfold sp_impl_MeetingPairs at h ⊢; simp only at h ⊢; split at h
  · obtain ⟨h0, h1⟩ := h
    obtain ⟨l0, rfl⟩ := isQ_ex h0
    simp only [toQs_enc] at *
    exact c_impl_MeetingPairs _ h1
  · exact h.elim
theorem en_impl_MeetingPairs : Enters Try.prog 12 := enters_of Try.func12 (by kernel_rfl) rfl


/-! the plain law -/
def adjB (n : Nat) (p : Pt) : Bool := p.2 == p.1 + 1 || (p.1 == 0 && p.2 == (n : Int) - 1)
theorem adj_count {n : Nat} (h3 : 3 ≤ n) (h12 : n ≤ 12) : ((prs n n).filter (adjB n)).length = n := by
  match n, h3, h12 with
  | 3, _, _ => decide
  | 4, _, _ => decide
  | 5, _, _ => decide
  | 6, _, _ => decide
  | 7, _, _ => decide
  | 8, _, _ => decide
  | 9, _, _ => decide
  | 10, _, _ => decide
  | 11, _, _ => decide
  | 12, _, _ => decide
theorem simp_rel {l : List Pt} (h : simpB l = true) {i j : Nat} (hij : i < j) (hj : j < l.length) : relP (edP l i) (edP l j) = if j - i = 1 ∨ j - i = l.length - 1 then 1 else 0 := by
  rw [simpB, Bool.and_eq_true] at h
  have := pairs_iff.1 h.2 j hj i hij
  rw [← ok_same hij hj, okI, beq_iff_eq] at this
  rw [rel_comm]; exact this
theorem edges_ok {l : List Pt} (h : simpB l = true) (h12 : l.length ≤ 12) : okSs (edgesP l) = true := by
  rw [simpB, Bool.and_eq_true] at h
  obtain ⟨hk, h3, _, hn⟩ := ring_facts h.1
  have hpt : ∀ j, j < l.length → okP (pAt l j) = true := fun j hj => by
    simp only [okPs, Bool.and_eq_true, List.all_eq_true] at hk
    exact hk.1 _ (by rw [pAt, List.getD, List.getElem?_eq_getElem hj]; exact List.getElem_mem hj)
  have he : (edgesP l).length = l.length := by rw [edgesP, edgesN_len]
  rw [okSs, Bool.and_eq_true, List.all_eq_true]
  refine ⟨fun s hs => ?_, by rw [he]; exact decide_eq_true h12⟩
  simp only [edgesP, edgesN, List.mem_map, List.mem_range] at hs
  obtain ⟨i, hi, rfl⟩ := hs
  simp only [vSg, Bool.and_eq_true, bne_iff_ne, ne_eq]
  exact ⟨hpt i hi, hpt _ (Nat.mod_lt _ (by omega)), ed_ne hn (by omega) hi⟩
theorem edges_dr {l : List Pt} (h : simpB l = true) (h12 : l.length ≤ 12) : drB (edgesP l) = true := by
  have hok := edges_ok h h12
  have he : (edgesP l).length = l.length := by rw [edgesP, edgesN_len]
  have hr := h
  rw [simpB, Bool.and_eq_true] at hr
  obtain ⟨_, h3, _, hn⟩ := ring_facts hr.1
  rw [drB, hok, dr_any.2 (fun i j h1 h2 => ?_)]; rfl
  rw [he] at h2
  rw [edgesP_at (by omega), edgesP_at h2]
  have hrel : relP (edgeP l i) (edgeP l j) = _ := simp_rel h h1 h2
  rw [badS, hrel]
  split
  · rename_i c
    have hsh : shE (edgeP l i) (edgeP l j) = true := by
      rw [shE_iff]
      rcases c with c | c
      · refine ⟨pAt l j, .inr ?_, .inl rfl⟩
        show pAt l j = pAt l ((i + 1) % l.length)
        rw [Nat.mod_eq_of_lt (by omega), show i + 1 = j by omega]
      · refine ⟨pAt l 0, .inl ?_, .inr ?_⟩
        · show pAt l 0 = pAt l i
          rw [show i = 0 by omega]
        · show pAt l 0 = pAt l ((j + 1) % l.length)
          rw [show j + 1 = l.length by omega, Nat.mod_self]
    rw [hsh]; rfl
  · rfl
theorem edges_meet {l : List Pt} (h : simpB l = true) (h12 : l.length ≤ 12) : (meetL (edgesP l) (prs l.length l.length)).length = l.length := by
  have hr := h
  rw [simpB, Bool.and_eq_true] at hr
  obtain ⟨_, h3, _, _⟩ := ring_facts hr.1
  have e : meetL (edgesP l) (prs l.length l.length) = (prs l.length l.length).filter (adjB l.length) := by
    refine List.filter_congr fun p hp => ?_
    obtain ⟨i, j, h1, h2, rfl⟩ := prs_mem (Nat.le_refl _) hp
    simp only [apS, adjB, Int.toNat_natCast]
    rw [edgesP_at (by omega), edgesP_at h2]
    have hrel : relP (edgeP l i) (edgeP l j) = _ := simp_rel h h1 h2
    rw [hrel]
    split
    · rename_i c
      rw [Bool.eq_iff_iff]
      simp only [Bool.or_eq_true, Bool.and_eq_true, beq_iff_eq]
      refine ⟨fun _ => ?_, fun _ => rfl⟩
      rcases c with c | c
      · left; omega
      · right; omega
    · rename_i c
      rw [Bool.eq_iff_iff]
      simp only [Bool.or_eq_true, Bool.and_eq_true, beq_iff_eq]
      refine ⟨fun q => (by cases q), fun q => ?_⟩
      exact absurd (by omega) c
  rw [e]
  exact adj_count h3 h12

def drawPol (b : List Int) : List Pt := (aPoly (b.take 2000) 0).1
theorem drawPol_len {b : List Int} (hb : ∀ x ∈ b, 0 ≤ x ∧ x < 256) : (drawPol b).length ≤ 100 := (aPoly_len (bytes_take hb) (Nat.zero_le 700000)).1
def g_spec_DrawIsSimple : List (Nat × PSpec) := []
theorem gok_spec_DrawIsSimple : GOK Try.prog g_spec_DrawIsSimple := gok0
def h_spec_DrawIsSimple : List (Nat × HSpec) := [(35, hs_spec_newReader), (34, hs_spec_anyPolygon)]
theorem hok_spec_DrawIsSimple : HOK Try.prog h_spec_DrawIsSimple := hok_cons hk_spec_newReader en_spec_newReader (hok_cons hk_spec_anyPolygon en_spec_anyPolygon (hok0))
theorem lh_spec_DrawIsSimple_spec_newReader : lkHS h_spec_DrawIsSimple 35 = some hs_spec_newReader := rfl
theorem lh_spec_DrawIsSimple_spec_anyPolygon : lkHS h_spec_DrawIsSimple 34 = some hs_spec_anyPolygon := rfl
theorem c_spec_DrawIsSimple (b : List Int) (hb : ∀ x ∈ b, 0 ≤ x ∧ x < 256) (hsz : b.length ≤ 1048576) : ICall Try.prog 8 [.sl 1 (encBy b)] (.sl 2 (encPs (drawPol b))) := by
  refine icall_V (G := g_spec_DrawIsSimple) (H := h_spec_DrawIsSimple) [] tabOK mixed gok_spec_DrawIsSimple hok_spec_DrawIsSimple Try.func8 rfl Try.ntmps8 Try.results8 rfl (by kernel_rfl) fun F hN hlen => ?_
  have hbt := bytes_take hb
  have hd : (aPoly (b.take 2000) 0).1 = drawPol b := rfl
  simp only [V_seq, V_ret, V_region, W_nil, W_cons, effOp2, KN_seq, KXr_nil, QE, effOp, effPure, Option.isSome_some, skipE, pureV, ofC, strip, lkT, lkH, ISt.app, opI, gO, gB, allB, gval, wrapG, dstOK, setD, mentTm, mentHp, IV.ment, IV.mentL, lendV, lendP, lent, lentP, idsV, idsL, clean, callArgs, callFn, enumT, Gives, Ideal.Fin, conv, conv0, convL, IBlk.shape, Op.operands, reduceIte, reduceCtorEq, cond_true, cond_false, Bool.or_false, Bool.and_true, Bool.not_false, Nat.reduceAdd, Nat.reduceSub, Nat.reduceMul, Nat.reduceLT, Nat.reduceLeDiff, Nat.reduceEqDiff, Nat.add_zero, not_false_eq_true, beq_self_eq_true, and_false, and_self, implies_true, List.map_cons, List.map_nil, List.nil_append, List.cons_append, List.append_nil, List.all_nil, Option.map_some, Option.map_none, List.getD_cons_zero, ex_clo, Bool.true_eq_false, Bool.false_eq_true, hN, Int.toNat_natCast, isBy_enc, toBy_enc, SLe0, convTm, convHp, convB, sm, effH, mkHC0, mkHC1, lendM, lentM, lentI, allHere, addIds, idsB, flatIds, reach, posn, renV, renL, renB, renH, numB, subHp, fwd, bk, bwd, nones, keyOK, noSl, noSlL, flatBs, List.contains, List.elem, Option.isSome_some, List.nodup_nil, List.nodup_cons, List.not_mem_nil, or_false, Option.getD_some, lh_spec_DrawIsSimple_spec_newReader, lh_spec_DrawIsSimple_spec_anyPolygon, hs_spec_newReader, hs_spec_anyPolygon, rdr, hsz, hbt, hd]
def sp_spec_DrawIsSimple : PSpec := ⟨fun xs => match xs with | [.sl 1 bes] => isBy bes ∧ ((fun (b : List Int) => ∀ x ∈ b, 0 ≤ x ∧ x < 256) (toIs bes)) ∧ ((fun (b : List Int) => b.length ≤ 1048576) (toIs bes)) | _ => False, fun xs => match xs with | [.sl _ bes] => (fun (b : List Int) => .sl 2 (encPs (drawPol b))) (toIs bes) | _ => .junk, false⟩
theorem gk_spec_DrawIsSimple : ∀ args, sp_spec_DrawIsSimple.pre args → ICall Try.prog 8 args (sp_spec_DrawIsSimple.val args) := by
  intro args h
  unfold sp_spec_DrawIsSimple at h ⊢; simp only at h ⊢; split at h
  · obtain ⟨h0, h1, h2⟩ := h
    obtain ⟨l0, rfl⟩ := isBy_ex h0
    simp only [toBy_enc] at *
    exact c_spec_DrawIsSimple _ h1 h2
  · exact h.elim
theorem en_spec_DrawIsSimple : Enters Try.prog 8 := enters_of Try.func8 (by kernel_rfl) rfl

def g_laws_FnPolygonDrawing : List (Nat × PSpec) := [(8, sp_spec_DrawIsSimple), (9, sp_impl_IsSimple), (10, sp_spec_IsSimple), (11, sp_impl_IsDrawing), (12, sp_impl_MeetingPairs)]
theorem gok_laws_FnPolygonDrawing : GOK Try.prog g_laws_FnPolygonDrawing := gok_cons gk_spec_DrawIsSimple en_spec_DrawIsSimple (gok_cons gk_impl_IsSimple en_impl_IsSimple (gok_cons gk_spec_IsSimple en_spec_IsSimple (gok_cons gk_impl_IsDrawing en_impl_IsDrawing (gok_cons gk_impl_MeetingPairs en_impl_MeetingPairs (gok0)))))
theorem lk_laws_FnPolygonDrawing_spec_DrawIsSimple : lkG g_laws_FnPolygonDrawing 8 = sp_spec_DrawIsSimple := rfl
theorem lk_laws_FnPolygonDrawing_impl_IsSimple : lkG g_laws_FnPolygonDrawing 9 = sp_impl_IsSimple := rfl
theorem lk_laws_FnPolygonDrawing_spec_IsSimple : lkG g_laws_FnPolygonDrawing 10 = sp_spec_IsSimple := rfl
theorem lk_laws_FnPolygonDrawing_impl_IsDrawing : lkG g_laws_FnPolygonDrawing 11 = sp_impl_IsDrawing := rfl
theorem lk_laws_FnPolygonDrawing_impl_MeetingPairs : lkG g_laws_FnPolygonDrawing 12 = sp_impl_MeetingPairs := rfl
def h_laws_FnPolygonDrawing : List (Nat × HSpec) := []
theorem hok_laws_FnPolygonDrawing : HOK Try.prog h_laws_FnPolygonDrawing := hok0
theorem c_laws_FnPolygonDrawing (b : List Int) (hb : ∀ x ∈ b, 0 ≤ x ∧ x < 256) : ICall Try.prog 3 [.sl 1 (encBy b)] (.bool true) := by
  refine icall_V (G := g_laws_FnPolygonDrawing) (H := []) [(11, [(0, 14), (1, 14), (2, 14), (3, 14), (4, 14), (5, 14), (6, 14), (7, 14), (8, 14), (9, 14), (10, 14), (11, 14), (12, 14), (1, 15), (2, 15), (3, 15), (4, 15), (5, 15), (6, 15), (7, 15), (8, 15), (9, 15), (10, 15), (11, 15), (12, 15), (13, 15)])] tabOK mixed gok_laws_FnPolygonDrawing hok_laws_FnPolygonDrawing Try.func3 rfl Try.ntmps3 Try.results3 rfl (by kernel_rfl) fun F hN hlen => ?_
  have eb := len_encBy b
  have bb : ∀ x : Bool, (x != x) = false := fun x => by simp
  have bb2 : ∀ x : Bool, (x == x) = true := fun x => by simp
  cases d1 : decide (1048576 < (b.length : Int)) with
  | true => simp only [V_seq, V_ret, V_region, V_cond, brW_true, W_nil, W_cons, effOp2, KN_seq, KXr_nil, KXr_seq, QE, asB, effOp, effPure, pureV, binV, lenV, ofC, strip, lkT, lkH, ISt.app, opI, gO, gB, allB, gval, wrapG, dstOK, setD, clean, enumT, Gives, Ideal.Fin, conv, conv0, Op.operands, Call.operands, List.append_toArray, reduceIte, reduceCtorEq, Nat.reduceLT, Nat.reduceEqDiff, ne_eq, not_false_eq_true, and_self, implies_true, List.nil_append, List.cons_append, List.append_nil, tab22, hN, eb, d1]
  | false =>
    have hsz : b.length ≤ 1048576 := by simp at d1; omega
    have hl := drawPol_len hb
    obtain ⟨l, hl0⟩ : ∃ l, drawPol b = l := ⟨_, rfl⟩
    rw [hl0] at hl
    have el := len_encPs l
    cases d2 : simpB l with
    | false =>
      simp only [V_seq, V_skip, V_ret, V_region, V_cond, brW_true, brW_false, W_nil, W_cons, effOp2, KN_seq, KXr_nil, KXr_seq, QE, asB, effOp, effPure, effPick, effCall, giveUp, hasAll, pureV, pickV, binV, lenV, ofC, strip, lkT, lkH, ISt.app, opI, gO, gB, allB, gval, wrapG, dstOK, setD, lendV, lendP, lent, lentP, idsV, idsL, lkHS, flat, clean, callArgs, callFn, allLent, enumT, Gives, Ideal.Fin, conv, conv0, Op.operands, Call.operands, List.append_toArray, reduceIte, reduceCtorEq, cond_true, cond_false, Bool.or_false, Bool.not_true, Bool.not_false, Nat.reduceLT, Nat.reduceEqDiff, ne_eq, not_false_eq_true, beq_self_eq_true, true_and, and_true, and_self, false_implies, implies_true, forall_const, List.map_cons, List.map_nil, List.nil_append, List.cons_append, List.append_nil, Option.bind_some, List.getElem?_cons_zero, List.getElem?_cons_succ, ex_clo, btf, or_true, or_self, Bool.true_eq_false, Bool.false_eq_true, tab4, tab22, tab23, hN, isPs_enc, toPs_enc, isBy_enc, toBy_enc, lk_laws_FnPolygonDrawing_spec_DrawIsSimple, lk_laws_FnPolygonDrawing_impl_IsSimple, lk_laws_FnPolygonDrawing_spec_IsSimple, sp_spec_DrawIsSimple, sp_impl_IsSimple, sp_spec_IsSimple, eb, d1, hsz, hl0, el, d2]
      exact hb
    | true =>
      cases d3 : decide ((12 : Int) < (l.length : Int)) with
      | true =>
        simp only [V_seq, V_skip, V_ret, V_region, V_cond, brW_true, brW_false, W_nil, W_cons, effOp2, KN_seq, KXr_nil, KXr_seq, QE, asB, effOp, effPure, effPick, effCall, giveUp, hasAll, pureV, pickV, binV, lenV, ofC, strip, lkT, lkH, ISt.app, opI, gO, gB, allB, gval, wrapG, dstOK, setD, lendV, lendP, lent, lentP, idsV, idsL, lkHS, flat, clean, callArgs, callFn, allLent, enumT, Gives, Ideal.Fin, conv, conv0, Op.operands, Call.operands, List.append_toArray, reduceIte, reduceCtorEq, cond_true, cond_false, Bool.or_false, Bool.not_true, Nat.reduceLT, Nat.reduceEqDiff, ne_eq, not_false_eq_true, beq_self_eq_true, true_and, and_true, and_self, implies_true, forall_const, List.map_cons, List.map_nil, List.nil_append, List.cons_append, List.append_nil, Option.bind_some, List.getElem?_cons_zero, List.getElem?_cons_succ, ex_clo, or_true, or_self, Bool.false_eq_true, tab4, tab22, tab23, hN, isPs_enc, toPs_enc, isBy_enc, toBy_enc, lk_laws_FnPolygonDrawing_spec_DrawIsSimple, lk_laws_FnPolygonDrawing_impl_IsSimple, lk_laws_FnPolygonDrawing_spec_IsSimple, sp_spec_DrawIsSimple, sp_impl_IsSimple, sp_spec_IsSimple, eb, d1, hsz, hl0, el, d2, d3]
        exact hb
      | false =>
        have h12 : l.length ≤ 12 := by simp at d3; omega
        have f0 := edges_ok d2 h12
        have f1 := edges_dr d2 h12
        have f2 := edges_meet d2 h12
        have he : (edgesP l).length = l.length := by rw [edgesP, edgesN_len]
        have hr := d2
        rw [simpB, Bool.and_eq_true] at hr
        obtain ⟨_, h3, _, _⟩ := ring_facts hr.1
        simp only [V_seq, V_skip, V_block, V_region, V_cond, brW_false, W_nil, W_cons, effOp2, KN_seq, asB, effOp, effPure, effPick, effNew, effBuildSlice, effFrz, frz, tmpsOf, effCall, giveUp, hasAll, skipE, pureV, pickV, binV, lenV, ofC, strip, lkT, lkH, ISt.app, opI, gO, gB, allB, gval, wrapG, dstOK, setD, mentTm, mentHp, IV.ment, partsL, eltsI, lendV, lendP, lent, lentP, idsV, idsL, lkHS, flat, clean, callArgs, callFn, allLent, enumT, Op.operands, Call.operands, List.append_toArray, reduceIte, reduceCtorEq, cond_true, cond_false, Bool.or_false, Bool.not_true, Nat.reduceMul, Nat.reduceLT, Nat.reduceLeDiff, Nat.reduceEqDiff, ne_eq, not_false_eq_true, beq_self_eq_true, true_and, and_true, and_self, implies_true, forall_const, List.map_cons, List.map_nil, List.nil_append, List.cons_append, List.append_nil, Option.bind_some, List.getElem?_cons_zero, List.getElem?_cons_succ, List.length_nil, ex_clo, or_true, or_self, Bool.false_eq_true, tab4, tab22, tab23, tab26, tab30, hN, isPs_enc, toPs_enc, isBy_enc, toBy_enc, lk_laws_FnPolygonDrawing_spec_DrawIsSimple, lk_laws_FnPolygonDrawing_impl_IsSimple, lk_laws_FnPolygonDrawing_spec_IsSimple, sp_spec_DrawIsSimple, sp_impl_IsSimple, sp_spec_IsSimple, eb, d1, hsz, hl0, el, d2, d3]
        refine ⟨hb, ?_⟩
        refine V_loop (α := Nat) ⟨tabOK, mixed, gok_laws_FnPolygonDrawing, hok_laws_FnPolygonDrawing⟩ (by kernel_rfl) (fun i => i ≤ l.length) (fun i => ⟨[(6, .num .i64 i), (5, .ref 31 0 i true), (3, .sl 2 (encPs l))], [(31, some (.arr 4 30 (encQs (edgesN l i))))]⟩) (fun i => l.length - i) 0 id (Nat.zero_le _) (by simp [SLe, SLe0, convTm, convHp, convB, conv, conv0, lkT, lkH, clean, edgesN, encQs]) ?_
        intro i hi
        have ee := edgesN_len l i
        have eq := len_encQs (edgesN l i)
        rw [ee] at eq
        have hx : ∃ k ty es, IBlk.arr 4 30 (encQs (edgesN l i)) = IBlk.arr k ty es := ⟨_, _, _, rfl⟩
        simp only [V_seq, V_region, V_cond, W_nil, W_cons, effOp2, KN_seq, asB, effOp, effPure, pureV, binV, lenV, strip, lkT, ISt.app, opI, gO, gB, allB, gval, wrapG, dstOK, setD, Op.operands, Call.operands, List.append_toArray, reduceIte, reduceCtorEq, Nat.reduceLT, Nat.reduceEqDiff, ne_eq, not_false_eq_true, true_and, and_self, implies_true, List.nil_append, List.cons_append, tab23, hN, el]
        refine brW_some (fun h => ?_) (fun h => ?_)
        · have hi' : i < l.length := by simpa using h
          have g0 := getD_encPs hi'
          have hm : (i + 1) % l.length < l.length := Nat.mod_lt _ (by omega)
          have g1 := getD_encPs hm
          have hw := wr_succ hi' (by rw [maxLen_eq]; omega)
          have t1 : (((i + 1 : Nat) : Int)).tmod (l.length : Int) = (((i + 1) % l.length : Nat) : Int) := by rw [Int.tmod_eq_emod_of_nonneg (by omega)]; simp
          have d4 : ((l.length : Int) == 0) = false := by rw [beq_eq_false_iff_ne]; omega
          have hst := edgesN_succ l i
          simp only [V_seq, V_skip, V_block, V_region, V_draw, drawW, WS_nil, pairsOf, W_nil, W_cons, effOp2, effOp3, WI_nil, WI_cons, KN_seq, KN_block, KN_back, dynOK, indB, farB, seeB, see, isStore, freshB, freshK, freshK1, heapy, effOp, effPure, effNew, effBuildSlice, effFrz, frz, tmpsOf, effAppend, effZeros, skipE, pureV, srcV, refId, binV, partV, eltV, loadV, iaddrV, lenV, over, solid, buildL, IV.cells, ofC, strip, lkT, lkH, ISt.app, opI, gO, gB, allB, gval, wrapG, dstOK, setD, mentTm, mentHp, IV.ment, IV.mentL, partsL, eltsI, eltI, oneI, noId', Op.operands, Call.operands, List.append_toArray, reduceIte, reduceCtorEq, cond_true, cond_false, Bool.or_false, Bool.or_true, Bool.and_true, Bool.and_false, Bool.and_eq_true, Bool.not_false, Nat.reduceAdd, Nat.reduceMul, Nat.reduceLT, Nat.reduceLeDiff, Nat.reduceEqDiff, Nat.reduceBEq, Nat.zero_add, ne_eq, not_false_eq_true, beq_self_eq_true, true_and, and_true, false_and, and_false, and_self, implies_true, forall_const, List.map_cons, List.map_nil, List.nil_append, List.cons_append, List.append_nil, List.all_cons, List.all_nil, Option.some.injEq, List.getD_cons_zero, List.getD_cons_succ, List.length_cons, List.length_nil, List.take_succ_cons, List.take_zero, List.take_nil, List.drop_succ_cons, List.drop_zero, List.drop_nil, tab23, tab26, tab28, tab30, hN, Int.toNat_natCast, el, eq, hw, t1, g0, g1, Int.toNat_natCast]
          repeat refine And.intro (by first | omega | (simp; done) | (simp; omega)) ?_
          refine ⟨i + 1, fun x => if x = 31 then 53 else x, by simp only []; omega, by simp only []; omega, ?_⟩
          simp [SLe, SLe0, convTm, convHp, convB, conv, conv0, lkT, lkH, clean]
          refine ⟨take_eq_of ?_, fun x a1 a2 a3 => by omega⟩
          rw [hst, ← encQs_app, List.take_of_length_le (by omega)]
          rfl
        · have hie : i = l.length := by simp at h; omega
          subst hie
          have hv : edgesN l l.length = edgesP l := rfl
          rw [hv] at eq hx ⊢
          have tq := take_encQs (edgesP l)
          rw [he] at tq
          have ef : (encPs (meetL (edgesP l) (prs l.length l.length))).length = l.length := by rw [len_encPs, f2]
          have d7 : ((l.length : Int) == (l.length : Int)) = true := by simp
          simp only [V_seq, V_ret, V_exit, V_region, W_nil, W_cons, effOp2, KN_seq, KXr_nil, KXe_nil, KXe_seq, KXe_block, KXe_back, QE, effOp, effPure, effPick, effCall, giveUp, hasAll, Option.isSome_some, pureV, pickV, binV, lenV, ofC, strip, lkT, lkH, ISt.app, opI, gO, gB, allB, gval, wrapG, dstOK, setD, lendV, lendP, lent, lentP, idsV, idsL, lkHS, flat, clean, callArgs, callFn, allLent, Gives, Ideal.Fin, conv, conv0, Op.operands, Call.operands, List.append_toArray, reduceIte, reduceCtorEq, cond_true, cond_false, Bool.or_false, Bool.not_true, Nat.reduceLT, Nat.reduceEqDiff, Nat.zero_add, ne_eq, not_false_eq_true, beq_self_eq_true, true_and, and_true, and_self, implies_true, forall_const, List.map_cons, List.map_nil, List.nil_append, List.cons_append, List.append_nil, Option.bind_some, List.getElem?_cons_zero, List.getElem?_cons_succ, List.drop_zero, ex_clo, or_true, or_self, Bool.true_eq_false, Bool.false_eq_true, tab23, tab32, hN, isQs_enc, toQs_enc, lk_laws_FnPolygonDrawing_impl_IsDrawing, lk_laws_FnPolygonDrawing_impl_MeetingPairs, sp_impl_IsDrawing, sp_impl_MeetingPairs, el, eq, f0, f1, he, tq, ef]
          exact Nat.le_refl _
def sp_laws_FnPolygonDrawing : PSpec := ⟨fun xs => match xs with | [.sl 1 bes] => isBy bes ∧ ((fun (b : List Int) => ∀ x ∈ b, 0 ≤ x ∧ x < 256) (toIs bes)) | _ => False, fun xs => match xs with | [.sl _ bes] => (fun (b : List Int) => .bool true) (toIs bes) | _ => .junk, false⟩
theorem gk_laws_FnPolygonDrawing : ∀ args, sp_laws_FnPolygonDrawing.pre args → ICall Try.prog 3 args (sp_laws_FnPolygonDrawing.val args) := by
  intro args h
  unfold sp_laws_FnPolygonDrawing at h ⊢; simp only at h ⊢; split at h
  · obtain ⟨h0, h1⟩ := h
    obtain ⟨l0, rfl⟩ := isBy_ex h0
    simp only [toBy_enc] at *
    exact c_laws_FnPolygonDrawing _ h1
  · exact h.elim
theorem en_laws_FnPolygonDrawing : Enters Try.prog 3 := enters_of Try.func3 (by kernel_rfl) rfl

end Go.Proofs.Ytlcndghaendieaa
