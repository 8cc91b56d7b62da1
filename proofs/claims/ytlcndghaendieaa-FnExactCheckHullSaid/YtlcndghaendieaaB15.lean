/- Contracts: edges and areas of polygons. -/
import Derived.Test.YtlcndghaendieaaB11
import Derived.Test.YtlcndghaendieaaBU
import Derived.Test.YtlcndghaendieaaBX
set_option linter.unusedVariables false
set_option linter.unusedSimpArgs false
namespace Go.Proofs.Ytlcndghaendieaa
open Go Go.Ideal Go.Pl Go.Sort

/-- The edge from the i-th vertex on. -/
def edgeP (l : List Pt) (i : Nat) : Qd := (pAt l i, pAt l ((i + 1) % l.length))
def edgesN (l : List Pt) (i : Nat) : List Qd := (List.range i).map (edgeP l)
def edgesP (l : List Pt) : List Qd := edgesN l l.length
theorem edgesN_len (l : List Pt) (i : Nat) : (edgesN l i).length = i := by simp [edgesN]
theorem edgesN_succ (l : List Pt) (i : Nat) : edgesN l (i + 1) = edgesN l i ++ [edgeP l i] := by simp [edgesN, List.range_succ]
theorem edgesP_at {l : List Pt} {i : Nat} (h : i < l.length) : qAt (edgesP l) i = edgeP l i := by simp [qAt, edgesP, edgesN, List.getD, h]
def areaN (l : List Pt) : Nat → Int
  | 0 => 0
  | i + 1 => areaN l i + crossP (pAt l i) (pAt l ((i + 1) % l.length))
/-- Twice the area. -/
def areaP (l : List Pt) : Int := areaN l l.length
theorem cross_bd {p q : Pt} (hp : Sm p) (hq : Sm q) : -20000000000 ≤ crossP p q ∧ crossP p q ≤ 20000000000 := by
  have h1 := mulb hp.1 hq.2
  have h2 := mulb hp.2 hq.1
  unfold crossP
  omega
theorem areaN_bd {l : List Pt} (hm : SmL l) : ∀ i : Nat, -(20000000000 * (i : Int)) ≤ areaN l i ∧ areaN l i ≤ 20000000000 * (i : Int)
  | 0 => by simp [areaN]
  | i + 1 => by
    have h1 := areaN_bd hm i
    have h2 := cross_bd (hm.at i) (hm.at ((i + 1) % l.length))
    rw [areaN]
    omega

def g_impl_edges : List (Nat × PSpec) := []
theorem gok_impl_edges : GOK Try.prog g_impl_edges := gok0
def h_impl_edges : List (Nat × HSpec) := []
theorem hok_impl_edges : HOK Try.prog h_impl_edges := hok0
theorem c_impl_edges (l : List Pt) (hsz : l.length ≤ 1000000) : HCall Try.prog 83 [.sl 2 (encPs l)] (sm ([])) (.ref 0 0 l.length true) (sm ([(0, .arr 4 30 (encQs (edgesP l)))])) := by
  refine hcall_V (G := g_impl_edges) (H := []) [(5, [(0, 11), (1, 11), (2, 11), (3, 11), (4, 11), (5, 11), (6, 11), (7, 11), (8, 11), (9, 11), (1, 12), (2, 12), (3, 12), (4, 12), (5, 12), (6, 12), (7, 12), (8, 12), (9, 12), (10, 12)])] tabOK mixed gok_impl_edges hok_impl_edges Try.func83 rfl Try.ntmps83 Try.results83 rfl (by kernel_rfl) fun F hN hlen => ?_
  simp only [sm]
  have el := len_encPs l
  simp only [V_seq, V_block, V_region, W_nil, W_cons, effOp2, KN_seq, effOp, effPure, effNew, effMake, skipE, pureV, lenV, ofC, strip, lkT, ISt.app, opI, gO, gB, allB, gval, wrapG, dstOK, setD, mentTm, mentHp, IV.ment, zeroElt, noId', enumT, Op.operands, Call.operands, List.append_toArray, reduceIte, reduceCtorEq, cond_true, Bool.or_false, Bool.and_true, Nat.reduceLT, Nat.reduceLeDiff, Nat.reduceEqDiff, ne_eq, not_false_eq_true, true_and, and_true, and_self, implies_true, List.nil_append, List.cons_append, List.append_nil, List.all_cons, List.all_nil, tab23, tab26, tab30, hN, el]
  refine ⟨by omega, ?_⟩
  refine V_loop (α := Nat) ⟨tabOK, mixed, gok_impl_edges, hok_impl_edges⟩ (by kernel_rfl) (fun i => i ≤ l.length) (fun i => ⟨[(11, .num .i64 i), (10, .num .i64 l.length), (9, .sl 2 (encPs l)), (3, .ref 8 0 i true), (0, .sl 2 (encPs l))], [(8, some (.arr 4 30 (encQs (edgesN l i))))]⟩) (fun i => l.length - i) 0 id (Nat.zero_le _) (by simp [SLe, SLe0, convTm, convHp, convB, conv, conv0, lkT, lkH, clean, edgesN, encQs]) ?_
  intro i hi
  have ee : (encQs (edgesN l i)).length = i := by rw [len_encQs, edgesN_len]
  simp only [V_seq, V_region, V_cond, W_nil, W_cons, effOp2, KN_seq, asB, effOp, effPure, pureV, binV, strip, lkT, ISt.app, opI, gO, gB, allB, gval, wrapG, dstOK, setD, Op.operands, reduceIte, reduceCtorEq, Nat.reduceLT, Nat.reduceEqDiff, true_and, and_self, implies_true, List.nil_append, List.cons_append, hN]
  refine brW_some (fun h => ?_) (fun h => ?_)
  · have hi' : i < l.length := by simpa using h
    have hn : (i + 1) % l.length < l.length := Nat.mod_lt _ (by omega)
    have g0 := getD_encPs hi'
    have g1 := getD_encPs hn
    have hw := wr_succ hi' (by rw [maxLen_eq]; omega)
    have t1 : ((i + 1 : Nat) : Int).tmod (l.length : Int) = (((i + 1) % l.length : Nat) : Int) := by rw [Int.tmod_eq_emod_of_nonneg (by omega)]; simp
    have hst := edgesN_succ l i
    simp only [V_seq, V_skip, V_block, V_region, V_draw, drawW, WS_nil, pairsOf, W_nil, W_cons, effOp2, effOp3, WI_nil, WI_cons, KN_seq, KN_block, KN_back, dynOK, indB, farB, seeB, see, isStore, freshB, freshK, freshK1, heapy, effOp, effPure, effNew, effAlloc, effBuildSlice, effFrz, frz, tmpsOf, effStore, effAppend, effZeros, skipE, pureV, storeV, srcV, refId, binV, partV, eltV, loadV, iaddrV, lenV, over, solid, buildL, IV.cells, ofC, strip, lkT, lkH, ISt.app, opI, gO, gB, allB, gval, wrapG, dstOK, setD, mentTm, mentHp, IV.ment, IV.mentL, partsL, eltsI, eltI, oneI, noId', Op.operands, Call.operands, List.append_toArray, reduceIte, reduceCtorEq, cond_true, cond_false, Bool.or_false, Bool.or_true, Bool.and_true, Bool.and_false, Bool.and_eq_true, Bool.not_false, Nat.reduceAdd, Nat.reduceMul, Nat.reduceLT, Nat.reduceLeDiff, Nat.reduceEqDiff, Nat.reduceBEq, Nat.zero_add, ne_eq, not_false_eq_true, beq_self_eq_true, true_and, and_true, false_and, and_false, and_self, implies_true, forall_const, List.map_cons, List.map_nil, List.nil_append, List.cons_append, List.append_nil, List.all_cons, List.all_nil, Option.some.injEq, List.getD_cons_zero, List.getD_cons_succ, List.length_cons, List.length_nil, List.take_succ_cons, List.take_zero, List.take_nil, List.drop_succ_cons, List.drop_zero, List.drop_nil, tab23, tab26, tab28, tab30, hN, Int.toNat_natCast, el, hw, t1, g0, g1, ee]
    repeat refine And.intro (by first | omega | (simp; done) | (simp; omega)) ?_
    refine ⟨i + 1, fun x => if x = 8 then 28 else x, by simp only []; omega, by simp only []; omega, ?_⟩
    simp [SLe, SLe0, convTm, convHp, convB, conv, conv0, lkT, lkH, clean]
    refine ⟨take_eq_of ?_, fun x a1 a2 a3 => by omega⟩
    rw [hst, ← encQs_app, List.take_of_length_le (by omega)]
    rfl
  · have hie : i = l.length := by simp at h; omega
    subst hie
    have hv : edgesN l l.length = edgesP l := rfl
    rw [hv] at ee ⊢
    simp only [V_seq, V_ret, V_exit, V_region, W_nil, W_cons, effOp2, KN_seq, KXr_nil, KXe_nil, KXe_seq, KXe_block, KXe_back, QE, effOp, effPure, Option.isSome_some, pureV, strip, lkT, lkH, ISt.app, opI, gO, gB, allB, gval, wrapG, dstOK, setD, conv, conv0, Op.operands, reduceIte, reduceCtorEq, Nat.reduceLT, Nat.reduceEqDiff, true_and, and_true, and_self, implies_true, List.map_cons, List.map_nil, List.nil_append, List.cons_append, hN, FinH, resA, resV, SLe, SLe0, convTm, convHp, convB]
    exact ⟨fun x => if x = 0 then 8 else x, by simp; omega⟩
def hs_impl_edges : HSpec := ⟨[true], fun xs hp => match xs, hp with | [.sl 2 es], [] => (isPs es) ∧ ((fun (l : List Pt) => l.length ≤ 1000000) (toPs es)) | _, _ => False, fun xs hp => match xs, hp with | [.sl 2 es], [] => (fun (l : List Pt) => (.ref 0 0 l.length true : IV)) (toPs es) | _, _ => .junk, fun xs hp => match xs, hp with | [.sl 2 es], [] => (fun (l : List Pt) => ([(0, .arr 4 30 (encQs (edgesP l)))] : List (Nat × IBlk))) (toPs es) | _, _ => []⟩
theorem hk_impl_edges : ∀ args hp, hs_impl_edges.pre args hp → HCall Try.prog 83 args (sm hp) (hs_impl_edges.val args hp) (sm (hs_impl_edges.hval args hp)) := by
  intro args hp h
  unfold hs_impl_edges at h ⊢; simp only at h ⊢; split at h
  · obtain ⟨h1, h2⟩ := h; obtain ⟨l, rfl⟩ := isP_ex h1; rw [toPs_enc] at *; exact c_impl_edges l h2
  · exact h.elim
theorem en_impl_edges : Enters Try.prog 83 := enters_of Try.func83 (by kernel_rfl) rfl

def g_impl_edges_v : List (Nat × PSpec) := []
theorem gok_impl_edges_v : GOK Try.prog g_impl_edges_v := gok0
def h_impl_edges_v : List (Nat × HSpec) := []
theorem hok_impl_edges_v : HOK Try.prog h_impl_edges_v := hok0
theorem c_impl_edges_v (l : List Pt) (hsz : l.length ≤ 1000000) : ICallF Try.prog 83 [.sl 2 (encPs l)] (.sl 4 (encQs (edgesP l))) := by
  exact icallF_ref (c_impl_edges l hsz) (by rw [len_encQs, edgesP, edgesN_len]) (noSl_encQs _)
def sp_impl_edges_v : PSpec := ⟨fun xs => match xs with | [.sl 2 les] => isPs les ∧ ((fun (l : List Pt) => l.length ≤ 1000000) (toPs les)) | _ => False, fun xs => match xs with | [.sl _ les] => (fun (l : List Pt) => .sl 4 (encQs (edgesP l))) (toPs les) | _ => .junk, true⟩
theorem gk_impl_edges_v : ∀ args, sp_impl_edges_v.pre args → ICallF Try.prog 83 args (sp_impl_edges_v.val args) ∧ ∀ id, (sp_impl_edges_v.val args).ment id = false := by
  intro args h
  unfold sp_impl_edges_v at h ⊢; simp only at h ⊢; split at h
  · obtain ⟨h0, h1⟩ := h
    obtain ⟨l0, rfl⟩ := isP_ex h0
    simp only [toPs_enc] at *
    exact ⟨c_impl_edges_v _ h1, fun id => rfl⟩
  · exact h.elim
theorem en_impl_edges_v : Enters Try.prog 83 := enters_of Try.func83 (by kernel_rfl) rfl

def g_impl_area : List (Nat × PSpec) := [(83, sp_impl_edges_v), (95, sp_impl_Point_cross)]
theorem gok_impl_area : GOK Try.prog g_impl_area := gok_consO gk_impl_edges_v en_impl_edges_v (gok_cons gk_impl_Point_cross en_impl_Point_cross (gok0))
theorem lk_impl_area_impl_edges_v : lkG g_impl_area 83 = sp_impl_edges_v := rfl
theorem lk_impl_area_impl_Point_cross : lkG g_impl_area 95 = sp_impl_Point_cross := rfl
def h_impl_area : List (Nat × HSpec) := []
theorem hok_impl_area : HOK Try.prog h_impl_area := hok0
theorem c_impl_area (l : List Pt) (hm : SmL l) (hsz : l.length ≤ 1000000) : ICall Try.prog 48 [.sl 2 (encPs l)] (.num .i64 (areaP l)) := by
  refine icall_V (G := g_impl_area) (H := []) [] tabOK mixed gok_impl_area hok_impl_area Try.func48 rfl Try.ntmps48 Try.results48 rfl (by kernel_rfl) fun F hN hlen => ?_
  have el : (encQs (edgesP l)).length = l.length := by rw [len_encQs, edgesP, edgesN_len]
  have ee : (edgesP l).length = l.length := by rw [edgesP, edgesN_len]
  simp only [V_seq, V_block, V_region, W_nil, W_cons, effOp2, KN_seq, effOp, effPure, effCall, giveUp, hasAll, pureV, lenV, ofC, strip, lkT, lkH, ISt.app, opI, gO, gB, allB, gval, wrapG, dstOK, setD, lendV, lendP, lent, lentP, idsV, idsL, lkHS, flat, clean, callArgs, callFn, allLent, enumT, Op.operands, Call.operands, List.append_toArray, reduceIte, reduceCtorEq, cond_true, Bool.or_false, Bool.or_true, Bool.not_true, Nat.reduceLT, Nat.reduceEqDiff, ne_eq, not_false_eq_true, true_and, and_self, implies_true, List.map_cons, List.map_nil, List.nil_append, List.cons_append, List.append_nil, ex_clo, or_self, tab26, hN, isPs_enc, toPs_enc, lk_impl_area_impl_edges_v, sp_impl_edges_v, el, hsz]
  refine V_loop (α := Nat) ⟨tabOK, mixed, gok_impl_area, hok_impl_area⟩ (by kernel_rfl) (fun i => i ≤ l.length) (fun i => ⟨[(9, .num .i64 i), (8, .num .i64 l.length), (7, .sl 4 (encQs (edgesP l))), (3, .num .i64 (areaN l i))], []⟩) (fun i => l.length - i) 0 id (Nat.zero_le _) (by simp [SLe, SLe0, convTm, convHp, conv, conv0, lkT, lkH, clean, areaN]) ?_
  intro i hi
  simp only [V_seq, V_region, V_cond, W_nil, W_cons, effOp2, KN_seq, asB, effOp, effPure, pureV, binV, strip, lkT, ISt.app, opI, gO, gB, allB, gval, wrapG, dstOK, setD, Op.operands, reduceIte, Nat.reduceLT, Nat.reduceEqDiff, true_and, and_self, implies_true, List.nil_append, List.cons_append, List.append_nil, hN]
  refine brW_some (fun h => ?_) (fun h => ?_)
  · have hi' : i < l.length := by simpa using h
    have g0 := getD_encQs (l := edgesP l) (i := i) (by omega)
    rw [edgesP_at hi'] at g0
    have hw := wr_succ hi' (by rw [maxLen_eq]; omega)
    have hb := areaN_bd hm i
    have s0 := hm.at i
    have s1 := hm.at ((i + 1) % l.length)
    have hc := cross_bd s0 s1
    have m1 := mulb s0.1 s1.2
    have m2 := mulb s0.2 s1.1
    have hst : areaN l (i + 1) = areaN l i + crossP (edgeP l i).1 (edgeP l i).2 := rfl
    have e1 : (edgeP l i).1 = pAt l i := rfl
    have e2 : (edgeP l i).2 = pAt l ((i + 1) % l.length) := rfl
    rw [← e1] at m1 m2 hc s0
    rw [← e2] at m1 m2 hc s1
    generalize (edgeP l i).1 = p at *
    generalize (edgeP l i).2 = q at *
    have w3 : IntKind.i64.wrap (areaN l i + crossP p q) = areaN l (i + 1) := by rw [hst]; exact wr (by omega) (by omega)
    simp only [V_seq, V_skip, V_block, V_region, W_nil, W_cons, effOp2, KN_seq, KN_block, KN_back, effOp, effPure, effNew, effAlloc, effStore, effCall, giveUp, hasAll, skipE, pureV, storeV, binV, partV, eltV, loadV, faddrV, iaddrV, over, solid, IV.cells, ofC, strip, lkT, lkH, ISt.app, opI, gO, gB, allB, gval, wrapG, dstOK, setD, mentTm, mentHp, IV.ment, IV.mentL, oneI, lendV, lendP, lent, lentP, idsV, idsL, lkHS, flat, clean, callArgs, callFn, allLent, IBlk.shape, Op.operands, reduceIte, reduceCtorEq, cond_true, Bool.or_false, Bool.and_true, Bool.not_true, Nat.reduceAdd, Nat.reduceLT, Nat.reduceLeDiff, Nat.reduceEqDiff, Nat.add_zero, Nat.zero_add, ne_eq, not_false_eq_true, true_and, and_true, and_false, and_self, implies_true, forall_const, List.map_cons, List.map_nil, List.nil_append, List.cons_append, List.append_nil, List.all_cons, List.all_nil, Option.map_some, List.getD_cons_zero, List.getD_cons_succ, List.length_cons, List.length_nil, List.take_succ_cons, List.take_zero, List.take_nil, List.drop_succ_cons, List.drop_zero, List.drop_nil, ex_clo, or_self, tab26, tab28, tab30, hN, pe, Int.toNat_natCast, lk_impl_area_impl_Point_cross, sp_impl_Point_cross, el, hw, g0, w3]
    repeat refine And.intro (by first | omega | (simp; done) | (simp; omega)) ?_
    exact ⟨i + 1, id, by simp only []; omega, by simp only []; omega, by simp [SLe, SLe0, convTm, convHp, conv, conv0, lkT, lkH, clean]⟩
  · have hie : i = l.length := by simp at h; omega
    subst hie
    have hv : areaN l l.length = areaP l := rfl
    simp only [V_seq, V_ret, V_exit, V_region, W_nil, W_cons, effOp2, KN_seq, KXr_nil, KXe_nil, KXe_seq, KXe_block, KXe_back, QE, effOp, effPure, pureV, strip, lkT, lkH, ISt.app, opI, gO, gB, allB, gval, wrapG, dstOK, setD, clean, Gives, Ideal.Fin, conv, conv0, Op.operands, reduceIte, Nat.reduceLT, Nat.reduceEqDiff, and_self, implies_true, List.nil_append, List.cons_append, List.append_nil, hN, hv]
def sp_impl_area : PSpec := ⟨fun xs => match xs with | [.sl 2 les] => isPs les ∧ ((fun (l : List Pt) => SmL l) (toPs les)) ∧ ((fun (l : List Pt) => l.length ≤ 1000000) (toPs les)) | _ => False, fun xs => match xs with | [.sl _ les] => (fun (l : List Pt) => .num .i64 (areaP l)) (toPs les) | _ => .junk, false⟩
theorem gk_impl_area : ∀ args, sp_impl_area.pre args → ICall Try.prog 48 args (sp_impl_area.val args) := by
  intro args h
  unfold sp_impl_area at h ⊢; simp only at h ⊢; split at h
  · obtain ⟨h0, h1, h2⟩ := h
    obtain ⟨l0, rfl⟩ := isP_ex h0
    simp only [toPs_enc] at *
    exact c_impl_area _ h1 h2
  · exact h.elim
theorem en_impl_area : Enters Try.prog 48 := enters_of Try.func48 (by kernel_rfl) rfl


def g_spec_doubleArea : List (Nat × PSpec) := []
theorem gok_spec_doubleArea : GOK Try.prog g_spec_doubleArea := gok0
def h_spec_doubleArea : List (Nat × HSpec) := []
theorem hok_spec_doubleArea : HOK Try.prog h_spec_doubleArea := hok0
theorem c_spec_doubleArea (l : List Pt) (hm : SmL l) (hsz : l.length ≤ 1000000) : ICall Try.prog 49 [.sl 2 (encPs l)] (.num .i64 (areaP l)) := by
  refine icall_V (G := g_spec_doubleArea) (H := []) [] tabOK mixed gok_spec_doubleArea hok_spec_doubleArea Try.func49 rfl Try.ntmps49 Try.results49 rfl (by kernel_rfl) fun F hN hlen => ?_
  have el := len_encPs l
  simp only [V_seq, V_block, V_region, W_nil, W_cons, effOp2, KN_seq, effOp, effPure, pureV, ofC, strip, ISt.app, opI, gO, gB, allB, gval, wrapG, dstOK, setD, enumT, Op.operands, Nat.reduceLT, true_and, and_self, implies_true, List.nil_append, List.cons_append, List.append_nil, hN]
  refine V_loop (α := Nat) ⟨tabOK, mixed, gok_spec_doubleArea, hok_spec_doubleArea⟩ (by kernel_rfl) (fun i => i ≤ l.length) (fun i => ⟨[(4, .num .i64 i), (3, .num .i64 (areaN l i)), (0, .sl 2 (encPs l))], []⟩) (fun i => l.length - i) 0 id (Nat.zero_le _) (by simp [SLe, SLe0, convTm, convHp, conv, conv0, lkT, lkH, clean, areaN]) ?_
  intro i hi
  simp only [V_seq, V_region, V_cond, W_nil, W_cons, effOp2, KN_seq, asB, effOp, effPure, pureV, binV, lenV, strip, lkT, ISt.app, opI, gO, gB, allB, gval, wrapG, dstOK, setD, Op.operands, Call.operands, List.append_toArray, reduceIte, reduceCtorEq, Nat.reduceLT, Nat.reduceEqDiff, ne_eq, not_false_eq_true, true_and, and_self, implies_true, List.nil_append, List.cons_append, List.append_nil, tab23, hN, el]
  refine brW_some (fun h => ?_) (fun h => ?_)
  · have hi' : i < l.length := by simpa using h
    have hn : (i + 1) % l.length < l.length := Nat.mod_lt _ (by omega)
    have g0 := getD_encPs hi'
    have g1 := getD_encPs hn
    have hw := wr_succ hi' (by rw [maxLen_eq]; omega)
    have t1 : ((i + 1 : Nat) : Int).tmod (l.length : Int) = (((i + 1) % l.length : Nat) : Int) := by rw [Int.tmod_eq_emod_of_nonneg (by omega)]; simp
    have hb := areaN_bd hm i
    have s0 := hm.at i
    have s1 := hm.at ((i + 1) % l.length)
    have m1 := mulb s0.1 s1.2
    have m2 := mulb s0.2 s1.1
    have hst : areaN l (i + 1) = areaN l i + crossP (pAt l i) (pAt l ((i + 1) % l.length)) := rfl
    generalize pAt l ((i + 1) % l.length) = q at *
    generalize pAt l i = p at *
    have w1 : IntKind.i64.wrap (p.1 * q.2) = p.1 * q.2 := wr (by omega) (by omega)
    have w2 : IntKind.i64.wrap (p.2 * q.1) = p.2 * q.1 := wr (by omega) (by omega)
    have w3 : IntKind.i64.wrap (areaN l i + p.1 * q.2) = areaN l i + p.1 * q.2 := wr (by omega) (by omega)
    have w4 : IntKind.i64.wrap (areaN l i + p.1 * q.2 - p.2 * q.1) = areaN l (i + 1) := by rw [hst]; unfold crossP; rw [wr (by omega) (by omega)]; omega
    simp only [V_seq, V_skip, V_block, V_region, V_draw, drawW, pairsOf, W_nil, W_cons, WD_nil, WD_cons, effOp2, effOp3, KN_seq, KN_block, KN_back, effOp, effPure, effNew, effAlloc, effStore, skipE, pureV, storeV, binV, partV, eltV, loadV, faddrV, iaddrV, lenV, over, solid, IV.cells, ofC, strip, lkT, lkH, ISt.app, opI, gO, gB, allB, gval, wrapG, dstOK, setD, mentTm, mentHp, IV.ment, IV.mentL, oneI, IBlk.shape, Op.operands, Call.operands, List.append_toArray, reduceIte, reduceCtorEq, cond_true, Bool.or_false, Bool.and_true, Nat.reduceAdd, Nat.reduceLT, Nat.reduceLeDiff, Nat.reduceEqDiff, Nat.add_zero, Nat.zero_add, ne_eq, not_false_eq_true, true_and, and_true, and_false, and_self, implies_true, forall_const, List.nil_append, List.cons_append, List.append_nil, List.all_cons, List.all_nil, Option.map_some, List.getD_cons_zero, List.getD_cons_succ, List.length_cons, List.length_nil, List.take_succ_cons, List.take_zero, List.take_nil, List.drop_succ_cons, List.drop_zero, List.drop_nil, tab3, tab23, tab28, hN, Int.toNat_natCast, el, hw, t1, g0, g1, w1, w2, w3, w4]
    repeat refine And.intro (by first | omega | (simp; done) | (simp; omega)) ?_
    exact ⟨i + 1, id, by simp only []; omega, by simp only []; omega, by simp [SLe, SLe0, convTm, convHp, conv, conv0, lkT, lkH, clean]⟩
  · have hie : i = l.length := by simp at h; omega
    subst hie
    have hv : areaN l l.length = areaP l := rfl
    simp only [V_seq, V_ret, V_exit, V_region, W_nil, W_cons, effOp2, KN_seq, KXr_nil, KXe_nil, KXe_seq, KXe_block, KXe_back, QE, effOp, effPure, pureV, strip, lkT, lkH, ISt.app, opI, gO, gB, allB, gval, wrapG, dstOK, setD, clean, Gives, Ideal.Fin, conv, conv0, Op.operands, reduceIte, reduceCtorEq, Nat.reduceLT, Nat.reduceEqDiff, and_self, implies_true, List.nil_append, List.cons_append, List.append_nil, hN, hv]
def sp_spec_doubleArea : PSpec := ⟨fun xs => match xs with | [.sl 2 les] => isPs les ∧ ((fun (l : List Pt) => SmL l) (toPs les)) ∧ ((fun (l : List Pt) => l.length ≤ 1000000) (toPs les)) | _ => False, fun xs => match xs with | [.sl _ les] => (fun (l : List Pt) => .num .i64 (areaP l)) (toPs les) | _ => .junk, false⟩
theorem gk_spec_doubleArea : ∀ args, sp_spec_doubleArea.pre args → ICall Try.prog 49 args (sp_spec_doubleArea.val args) := by
  intro args h
  unfold sp_spec_doubleArea at h ⊢; simp only at h ⊢; split at h
  · obtain ⟨h0, h1, h2⟩ := h
    obtain ⟨l0, rfl⟩ := isP_ex h0
    simp only [toPs_enc] at *
    exact c_spec_doubleArea _ h1 h2
  · exact h.elim
theorem en_spec_doubleArea : Enters Try.prog 49 := enters_of Try.func49 (by kernel_rfl) rfl


/-- What HullArea gives. -/
def hareaP (l : List Pt) : Int := if okPs l then areaP (hullP l) else -1
theorem SmL.hull {l : List Pt} (h : SmL l) : SmL (hullP l) := fun p hp => h p (mem_hullP_sub hp)


end Go.Proofs.Ytlcndghaendieaa
