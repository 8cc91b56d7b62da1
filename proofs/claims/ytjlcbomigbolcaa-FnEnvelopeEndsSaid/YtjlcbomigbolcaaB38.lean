/- Contracts: graphs: valid, meeting, highest somewhere; the program's envelope. -/
import Derived.Test.YtjlcbomigbolcaaBR
import Derived.Test.YtjlcbomigbolcaaBU
import Derived.Test.YtjlcbomigbolcaaCd
import Derived.Test.YtjlcbomigbolcaaLay
import Derived.Test.YtjlcbomigbolcaaPl24
set_option linter.unusedVariables false
set_option linter.unusedSimpArgs false
set_option maxHeartbeats 1600000
set_option maxRecDepth 100000
namespace Go.Proofs.Ytjlcbomigbolcaa
open Go Go.Ideal Go.Pl Go.Sort

theorem okP_in1 {p : Pt} (h : okP p = true) : in1 p := by
  simp only [okP, inR, Bool.and_eq_true, decide_eq_true_eq] at h; exact h
def g_impl_Graph_valid : List (Nat × PSpec) := [(75, sp_impl_within)]
theorem gok_impl_Graph_valid : GOK Try.prog g_impl_Graph_valid := gok_cons gk_impl_within en_impl_within (gok0)
theorem lk_impl_Graph_valid_impl_within : lkG g_impl_Graph_valid 75 = sp_impl_within := rfl
def h_impl_Graph_valid : List (Nat × HSpec) := []
theorem hok_impl_Graph_valid : HOK Try.prog h_impl_Graph_valid := hok0
theorem c_impl_Graph_valid (p : Pt)  : ICall Try.prog 176 [encP p] (.bool (okP p)) := by
  refine icall_V (G := g_impl_Graph_valid) (H := []) [] tabOK mixed gok_impl_Graph_valid hok_impl_Graph_valid Try.func176 rfl Try.ntmps176 Try.results176 rfl (by kernel_rfl) fun F hN hlen => ?_
  simp only [V_seq, V_ret, V_region, W_nil, W_cons, effOp2, KN_seq, KXr_nil, QE, effOp, effPure, effPick, effNew, effBox, effCall, giveUp, hasAll, skipE, pureV, pickV, partV, loadV, faddrV, solid, IV.cells, ofC, strip, lkT, lkH, ISt.app, opI, gO, gB, allB, gval, wrapG, dstOK, setD, mentTm, mentHp, IV.ment, IV.mentL, oneI, lendV, lendP, lent, lentP, idsV, idsL, lkHS, flat, clean, callArgs, callFn, allLent, enumT, Gives, Ideal.Fin, conv, conv0, IBlk.shape, Op.operands, reduceIte, reduceCtorEq, cond_true, Bool.or_false, Bool.true_or, Bool.and_true, Bool.not_true, Nat.reduceAdd, Nat.reduceLT, Nat.reduceLeDiff, Nat.reduceEqDiff, Nat.add_zero, Nat.zero_add, true_and, and_true, and_self, implies_true, forall_const, List.map_cons, List.map_nil, List.nil_append, List.cons_append, List.append_nil, List.all_cons, List.all_nil, Option.map_some, Option.bind_some, List.getElem?_cons_zero, List.getElem?_cons_succ, List.getD_cons_zero, List.getD_cons_succ, List.length_cons, List.length_nil, List.take_succ_cons, List.take_zero, List.take_nil, List.drop_succ_cons, List.drop_zero, ex_clo, or_self, tab3, tab66, hN, encP, lk_impl_Graph_valid_impl_within, sp_impl_within, okP]
  cases inR p.1 (-1000) 1000 <;> simp
def sp_impl_Graph_valid : PSpec := ⟨fun xs => match xs with | [.agg [.num .i64 p1, .num .i64 p2]] => True | _ => False, fun xs => match xs with | [.agg [.num _ p1, .num _ p2]] => (fun (p : Pt) => .bool (okP p)) (p1, p2) | _ => .junk, false⟩
theorem gk_impl_Graph_valid : ∀ args, sp_impl_Graph_valid.pre args → ICall Try.prog 176 args (sp_impl_Graph_valid.val args) := by
  intro args h
  unfold sp_impl_Graph_valid at h ⊢; simp only at h ⊢; split at h
  · exact c_impl_Graph_valid (_, _)
  · exact h.elim
theorem en_impl_Graph_valid : Enters Try.prog 176 := enters_of Try.func176 (by kernel_rfl) rfl

def g_spec_validGraph : List (Nat × PSpec) := [(80, sp_spec_inRange)]
theorem gok_spec_validGraph : GOK Try.prog g_spec_validGraph := gok_cons gk_spec_inRange en_spec_inRange (gok0)
theorem lk_spec_validGraph_spec_inRange : lkG g_spec_validGraph 80 = sp_spec_inRange := rfl
def h_spec_validGraph : List (Nat × HSpec) := []
theorem hok_spec_validGraph : HOK Try.prog h_spec_validGraph := hok0
theorem c_spec_validGraph (p : Pt)  : ICall Try.prog 175 [encP p] (.bool (okP p)) := by
  refine icall_V (G := g_spec_validGraph) (H := []) [] tabOK mixed gok_spec_validGraph hok_spec_validGraph Try.func175 rfl Try.ntmps175 Try.results175 rfl (by kernel_rfl) fun F hN hlen => ?_
  simp only [V_seq, V_ret, V_region, W_nil, W_cons, effOp2, KN_seq, KXr_nil, QE, effOp, effPure, effPick, effNew, effBox, effCall, giveUp, hasAll, skipE, pureV, pickV, partV, loadV, faddrV, solid, IV.cells, ofC, strip, lkT, lkH, ISt.app, opI, gO, gB, allB, gval, wrapG, dstOK, setD, mentTm, mentHp, IV.ment, IV.mentL, oneI, lendV, lendP, lent, lentP, idsV, idsL, lkHS, flat, clean, callArgs, callFn, allLent, enumT, Gives, Ideal.Fin, conv, conv0, IBlk.shape, Op.operands, reduceIte, reduceCtorEq, cond_true, Bool.or_false, Bool.true_or, Bool.and_true, Bool.not_true, Nat.reduceAdd, Nat.reduceLT, Nat.reduceLeDiff, Nat.reduceEqDiff, Nat.add_zero, Nat.zero_add, true_and, and_true, and_self, implies_true, forall_const, List.map_cons, List.map_nil, List.nil_append, List.cons_append, List.append_nil, List.all_cons, List.all_nil, Option.map_some, Option.bind_some, List.getElem?_cons_zero, List.getElem?_cons_succ, List.getD_cons_zero, List.getD_cons_succ, List.length_cons, List.length_nil, List.take_succ_cons, List.take_zero, List.take_nil, List.drop_succ_cons, List.drop_zero, ex_clo, or_self, tab3, tab66, hN, encP, lk_spec_validGraph_spec_inRange, sp_spec_inRange, okP]
  cases inR p.1 (-1000) 1000 <;> simp
def sp_spec_validGraph : PSpec := ⟨fun xs => match xs with | [.agg [.num .i64 p1, .num .i64 p2]] => True | _ => False, fun xs => match xs with | [.agg [.num _ p1, .num _ p2]] => (fun (p : Pt) => .bool (okP p)) (p1, p2) | _ => .junk, false⟩
theorem gk_spec_validGraph : ∀ args, sp_spec_validGraph.pre args → ICall Try.prog 175 args (sp_spec_validGraph.val args) := by
  intro args h
  unfold sp_spec_validGraph at h ⊢; simp only at h ⊢; split at h
  · exact c_spec_validGraph (_, _)
  · exact h.elim
theorem en_spec_validGraph : Enters Try.prog 175 := enters_of Try.func175 (by kernel_rfl) rfl

def g_slices_Index_impl_Graph_impl_Graph : List (Nat × PSpec) := []
theorem gok_slices_Index_impl_Graph_impl_Graph : GOK Try.prog g_slices_Index_impl_Graph_impl_Graph := gok0
def h_slices_Index_impl_Graph_impl_Graph : List (Nat × HSpec) := []
theorem hok_slices_Index_impl_Graph_impl_Graph : HOK Try.prog h_slices_Index_impl_Graph_impl_Graph := hok0
theorem c_slices_Index_impl_Graph_impl_Graph (l : List Pt) (p : Pt)  : ICall Try.prog 223 [.sl 2 (encPs l), encP p] (.num .i64 (idxF (fun x => p == x) l 0)) := by
  refine icall_V (G := g_slices_Index_impl_Graph_impl_Graph) (H := []) [] tabOK mixed gok_slices_Index_impl_Graph_impl_Graph hok_slices_Index_impl_Graph_impl_Graph Try.func223 rfl Try.ntmps223 Try.results223 rfl (by kernel_rfl) fun F hN hlen => ?_
  have hl := hlen 0 2 _ rfl
  have el := len_encPs l
  rw [el] at hl
  simp only [V_seq, V_block, V_region, W_nil, W_cons, effOp2, KN_seq, effOp, effPure, effNew, effBox, skipE, pureV, lenV, solid, IV.cells, ofC, strip, lkT, ISt.app, opI, gO, gB, allB, gval, wrapG, dstOK, setD, mentTm, mentHp, IV.ment, IV.mentL, oneI, enumT, Op.operands, Call.operands, List.append_toArray, reduceIte, reduceCtorEq, cond_true, Bool.or_false, Bool.and_true, Nat.reduceLT, Nat.reduceEqDiff, Nat.zero_add, ne_eq, not_false_eq_true, true_and, and_self, implies_true, List.nil_append, List.cons_append, List.append_nil, List.all_cons, List.all_nil, tab57, hN, encP, el]
  refine V_loop (α := Nat) ⟨tabOK, mixed, gok_slices_Index_impl_Graph_impl_Graph, hok_slices_Index_impl_Graph_impl_Graph⟩ (by kernel_rfl) (fun i => i ≤ l.length ∧ idxF (fun x => p == x) l 0 = idxF (fun x => p == x) (l.drop i) i)
    (fun i => ⟨[(8, .num .i64 i), (7, .num .i64 l.length), (3, .ptr 3 0), (0, .sl 2 (encPs l))], [(3, some (.box 66 [.num .i64 p.1, .num .i64 p.2]))]⟩) (fun i => l.length - i) 0 id (by simp) (by simp [SLe, SLe0, convTm, convHp, convB, conv, conv0, convL, lkT, lkH, clean]) ?_
  rintro i ⟨hi, hj⟩
  simp only [V_seq, V_region, V_cond, W_nil, W_cons, effOp2, KN_seq, asB, effOp, effPure, pureV, binV, strip, lkT, ISt.app, opI, gO, gB, allB, gval, wrapG, dstOK, setD, Op.operands, reduceIte, reduceCtorEq, Nat.reduceLT, Nat.reduceEqDiff, true_and, and_self, implies_true, List.nil_append, List.cons_append, hN]
  refine brW_some (fun h => ?_) (fun h => ?_)
  · have hi' : i < l.length := by simpa using h
    have g1 := getD_encPs hi'
    have hw := wr_succ hi' hl
    have hst := idxF_step (p := fun x => p == x) (d := (0, 0)) hi'
    simp only [V_seq, V_skip, V_block, V_region, V_draw, V_cond, drawW, pairsOf, W_nil, W_cons, WD_nil, WD_cons, effOp2, KN_seq, asB, effOp, effPure, pureV, binV, partV, eltV, loadV, iaddrV, strip, lkT, lkH, ISt.app, opI, gO, gB, allB, gval, wrapG, dstOK, setD, eqL, numsOnly, Op.operands, reduceIte, reduceCtorEq, Bool.and_true, Nat.reduceAdd, Nat.reduceLT, Nat.reduceLeDiff, Nat.reduceEqDiff, Nat.zero_add, ne_eq, not_false_eq_true, true_and, and_true, and_false, and_self, implies_true, forall_const, List.nil_append, List.cons_append, List.getD_cons_zero, List.length_cons, List.length_nil, List.take_succ_cons, List.take_nil, List.drop_zero, tab57, tab66, hN, Int.toNat_natCast, el, Int.toNat_natCast, g1, eqP]
    repeat refine And.intro (by first | omega | (simp; done) | (simp; omega)) ?_
    refine brW_some (fun h => ?_) (fun h => ?_)
    · simp only [V_seq, V_ret, V_region, W_nil, W_cons, effOp2, KN_seq, KXr_nil, KXr_seq, KXr_block, KXr_back, QE, effOp, effPure, pureV, strip, lkT, lkH, ISt.app, opI, gO, gB, allB, gval, wrapG, dstOK, setD, clean, Gives, Ideal.Fin, conv, conv0, Op.operands, reduceIte, reduceCtorEq, Nat.reduceLT, Nat.reduceEqDiff, true_and, and_true, and_self, implies_true, List.nil_append, List.cons_append, hN]
      rw [hj, hst]
      exact congrArg _ (if_pos h).symm
    · simp only [V_skip, V_region, W_nil, W_cons, effOp2, KN_seq, KN_block, KN_back, effOp, effPure, pureV, binV, ofC, strip, lkT, ISt.app, opI, gO, gB, allB, gval, wrapG, dstOK, setD, Op.operands, reduceIte, reduceCtorEq, Nat.reduceLT, Nat.reduceEqDiff, true_and, and_self, implies_true, List.nil_append, List.cons_append, hN, hw]
      exact ⟨i + 1, id, ⟨by omega, hj.trans (hst.trans (if_neg (ne_true_of_eq_false h)))⟩, by simp only []; omega, by simp [SLe, SLe0, convTm, convHp, convB, conv, conv0, convL, lkT, lkH, clean]⟩
  · simp only [V_seq, V_ret, V_exit, V_region, W_nil, W_cons, effOp2, KN_seq, KXr_nil, KXe_nil, KXe_seq, KXe_block, KXe_back, QE, effOp, effPure, pureV, ofC, strip, lkT, lkH, ISt.app, opI, gO, gB, allB, gval, wrapG, dstOK, setD, clean, Gives, Ideal.Fin, conv, conv0, Op.operands, reduceIte, reduceCtorEq, Nat.reduceLT, Nat.reduceEqDiff, true_and, and_true, and_self, implies_true, List.nil_append, List.cons_append, hN]
    have hie : i = l.length := by simp at h; omega
    subst hie
    rw [hj]
    simp [idxF]
def sp_slices_Index_impl_Graph_impl_Graph : PSpec := ⟨fun xs => match xs with | [.sl 2 les, .agg [.num .i64 p1, .num .i64 p2]] => isPs les | _ => False, fun xs => match xs with | [.sl _ les, .agg [.num _ p1, .num _ p2]] => (fun (l : List Pt) (p : Pt) => .num .i64 (idxF (fun x => p == x) l 0)) (toPs les) (p1, p2) | _ => .junk, false⟩
theorem gk_slices_Index_impl_Graph_impl_Graph : ∀ args, sp_slices_Index_impl_Graph_impl_Graph.pre args → ICall Try.prog 223 args (sp_slices_Index_impl_Graph_impl_Graph.val args) := by
  intro args h
  unfold sp_slices_Index_impl_Graph_impl_Graph at h ⊢; simp only at h ⊢; split at h
  · have h0 := h
    obtain ⟨l0, rfl⟩ := isP_ex h0
    simp only [toPs_enc] at *
    exact c_slices_Index_impl_Graph_impl_Graph _ (_, _) 
  · exact h.elim
theorem en_slices_Index_impl_Graph_impl_Graph : Enters Try.prog 223 := enters_of Try.func223 (by kernel_rfl) rfl

def g_slices_Contains_impl_Graph_impl_Graph : List (Nat × PSpec) := [(223, sp_slices_Index_impl_Graph_impl_Graph)]
theorem gok_slices_Contains_impl_Graph_impl_Graph : GOK Try.prog g_slices_Contains_impl_Graph_impl_Graph := gok_cons gk_slices_Index_impl_Graph_impl_Graph en_slices_Index_impl_Graph_impl_Graph (gok0)
theorem lk_slices_Contains_impl_Graph_impl_Graph_slices_Index_impl_Graph_impl_Graph : lkG g_slices_Contains_impl_Graph_impl_Graph 223 = sp_slices_Index_impl_Graph_impl_Graph := rfl
def h_slices_Contains_impl_Graph_impl_Graph : List (Nat × HSpec) := []
theorem hok_slices_Contains_impl_Graph_impl_Graph : HOK Try.prog h_slices_Contains_impl_Graph_impl_Graph := hok0
theorem c_slices_Contains_impl_Graph_impl_Graph (l : List Pt) (p : Pt)  : ICall Try.prog 177 [.sl 2 (encPs l), encP p] (.bool (l.any (fun x => p == x))) := by
  refine icall_V (G := g_slices_Contains_impl_Graph_impl_Graph) (H := []) [] tabOK mixed gok_slices_Contains_impl_Graph_impl_Graph hok_slices_Contains_impl_Graph_impl_Graph Try.func177 rfl Try.ntmps177 Try.results177 rfl (by kernel_rfl) fun F hN hlen => ?_
  simp only [V_seq, V_ret, V_region, W_nil, W_cons, effOp2, KN_seq, KXr_nil, QE, effOp, effPure, effNew, effBox, effCall, giveUp, hasAll, skipE, pureV, binV, partV, loadV, solid, IV.cells, ofC, strip, lkT, lkH, ISt.app, opI, gO, gB, allB, gval, wrapG, dstOK, setD, mentTm, mentHp, IV.ment, IV.mentL, oneI, lendV, lendP, lent, lentP, idsV, idsL, lkHS, flat, clean, callArgs, callFn, allLent, enumT, Gives, Ideal.Fin, conv, conv0, Op.operands, reduceIte, reduceCtorEq, cond_true, Bool.or_false, Bool.and_true, Bool.not_true, Nat.reduceAdd, Nat.reduceLT, Nat.reduceLeDiff, Nat.reduceEqDiff, Nat.zero_add, and_false, and_self, implies_true, List.map_cons, List.map_nil, List.nil_append, List.cons_append, List.append_nil, List.all_cons, List.all_nil, List.getD_cons_zero, List.length_cons, List.length_nil, List.take_succ_cons, List.take_nil, List.drop_zero, ex_clo, or_self, tab66, hN, pe, encP, isPs_enc, toPs_enc, lk_slices_Contains_impl_Graph_impl_Graph_slices_Index_impl_Graph_impl_Graph, sp_slices_Index_impl_Graph_impl_Graph, idxF_sign]
def sp_slices_Contains_impl_Graph_impl_Graph : PSpec := ⟨fun xs => match xs with | [.sl 2 les, .agg [.num .i64 p1, .num .i64 p2]] => isPs les | _ => False, fun xs => match xs with | [.sl _ les, .agg [.num _ p1, .num _ p2]] => (fun (l : List Pt) (p : Pt) => .bool (l.any (fun x => p == x))) (toPs les) (p1, p2) | _ => .junk, false⟩
theorem gk_slices_Contains_impl_Graph_impl_Graph : ∀ args, sp_slices_Contains_impl_Graph_impl_Graph.pre args → ICall Try.prog 177 args (sp_slices_Contains_impl_Graph_impl_Graph.val args) := by
  intro args h
  unfold sp_slices_Contains_impl_Graph_impl_Graph at h ⊢; simp only at h ⊢; split at h
  · have h0 := h
    obtain ⟨l0, rfl⟩ := isP_ex h0
    simp only [toPs_enc] at *
    exact c_slices_Contains_impl_Graph_impl_Graph _ (_, _) 
  · exact h.elim
theorem en_slices_Contains_impl_Graph_impl_Graph : Enters Try.prog 177 := enters_of Try.func177 (by kernel_rfl) rfl

/-- Is the j-th graph valid and another one than those ahead of it? -/
def gsT (l : List Pt) (j : Nat) : Bool := okP (pAt l j) && !((l.take j).any fun x => pAt l j == x)
def okGs (l : List Pt) : Bool := (List.range l.length).all (gsT l) && decide (l.length ≤ 8)
theorem gs_no {l : List Pt} {i : Nat} (hi : i < l.length) (h : gsT l i = false) : okGs l = false := by
  cases hc : (List.range l.length).all (gsT l) with
  | false => rw [okGs, hc]; rfl
  | true =>
    rw [List.all_eq_true] at hc
    rw [hc i (List.mem_range.2 hi)] at h; cases h
theorem gs_all {l : List Pt} (h : ∀ j, j < l.length → gsT l j = true) : okGs l = decide (l.length ≤ 8) := by
  have : (List.range l.length).all (gsT l) = true := by
    rw [List.all_eq_true]; intro j hj; exact h j (List.mem_range.1 hj)
  rw [okGs, this, Bool.true_and]
theorem gs_step {l : List Pt} {i : Nat} (h : ∀ j, j < i → gsT l j = true) (h2 : gsT l i = true) : ∀ j, j < i + 1 → gsT l j = true := fun j hj => by
  rcases Nat.lt_or_ge j i with c | c
  · exact h j c
  · rw [show j = i by omega]; exact h2
def g_impl_graphsOk : List (Nat × PSpec) := [(176, sp_impl_Graph_valid), (177, sp_slices_Contains_impl_Graph_impl_Graph)]
theorem gok_impl_graphsOk : GOK Try.prog g_impl_graphsOk := gok_cons gk_impl_Graph_valid en_impl_Graph_valid (gok_cons gk_slices_Contains_impl_Graph_impl_Graph en_slices_Contains_impl_Graph_impl_Graph (gok0))
theorem lk_impl_graphsOk_impl_Graph_valid : lkG g_impl_graphsOk 176 = sp_impl_Graph_valid := rfl
theorem lk_impl_graphsOk_slices_Contains_impl_Graph_impl_Graph : lkG g_impl_graphsOk 177 = sp_slices_Contains_impl_Graph_impl_Graph := rfl
def h_impl_graphsOk : List (Nat × HSpec) := []
theorem hok_impl_graphsOk : HOK Try.prog h_impl_graphsOk := hok0
theorem c_impl_graphsOk (l : List Pt)  : ICall Try.prog 106 [.sl 2 (encPs l)] (.bool (okGs l)) := by
  refine icall_V (G := g_impl_graphsOk) (H := []) [(4, [(1, 4), (1, 5), (1, 6), (1, 7), (0, 8), (1, 8), (2, 8), (4, 8), (5, 8), (1, 9)])] tabOK mixed gok_impl_graphsOk hok_impl_graphsOk Try.func106 rfl Try.ntmps106 Try.results106 rfl (by kernel_rfl) fun F hN hlen => ?_
  have hl := hlen 0 2 _ rfl
  have el := len_encPs l
  rw [el] at hl
  simp only [V_seq, V_block, V_region, W_nil, W_cons, effOp2, KN_seq, effOp, effPure, pureV, lenV, ofC, strip, lkT, ISt.app, opI, gO, gB, allB, gval, wrapG, dstOK, setD, enumT, Op.operands, Call.operands, List.append_toArray, reduceIte, reduceCtorEq, Nat.reduceLT, Nat.reduceEqDiff, ne_eq, not_false_eq_true, true_and, and_self, implies_true, List.nil_append, List.cons_append, List.append_nil, tab57, hN, el]
  refine V_loop (α := Nat) ⟨tabOK, mixed, gok_impl_graphsOk, hok_impl_graphsOk⟩ (by kernel_rfl) (fun i => i ≤ l.length ∧ ∀ j, j < i → gsT l j = true) (fun i => ⟨[(7, .num .i64 i), (6, .num .i64 l.length), (5, .sl 2 (encPs l)), (0, .sl 2 (encPs l))], []⟩) (fun i => l.length - i) 0 id ⟨Nat.zero_le _, fun j h => absurd h (Nat.not_lt_zero j)⟩ (by simp [SLe, SLe0, convTm, convHp, conv, conv0, lkT, lkH, clean]) ?_
  rintro i ⟨hi, hj⟩
  simp only [V_seq, V_region, V_cond, W_nil, W_cons, effOp2, KN_seq, asB, effOp, effPure, pureV, binV, strip, lkT, ISt.app, opI, gO, gB, allB, gval, wrapG, dstOK, setD, Op.operands, reduceIte, reduceCtorEq, Nat.reduceLT, Nat.reduceEqDiff, true_and, and_self, implies_true, List.nil_append, List.cons_append, List.append_nil, hN]
  refine brW_some (fun h => ?_) (fun h => ?_)
  · have hi' : i < l.length := by simpa using h
    have g1 := getD_encPs hi'
    have hw := wr_succ hi' hl
    have hG : gsT l i = (okP (pAt l i) && !((l.take i).any fun x => pAt l i == x)) := rfl
    have hno := gs_no hi'
    have hst := gs_step hj
    generalize pAt l i = p at *
    cases q1 : okP p with
    | false =>
      have hn := hno (by rw [hG, q1]; rfl)
      simp only [V_seq, V_skip, V_ret, V_block, V_region, V_draw, V_cond, brW_true, drawW, WS_nil, WS_cons, pairsOf, W_nil, W_cons, effOp2, WI_nil, WI_cons, KN_seq, KXr_nil, KXr_seq, KXr_block, KXr_back, QE, dynOK, indB, farB, freshB, heapy, asB, effOp, effPure, effPick, effNew, effAlloc, effStore, effCall, giveUp, hasAll, skipE, pureV, pickV, storeV, partV, eltV, loadV, iaddrV, sliceV, over, solid, IV.cells, ofC, strip, lkT, lkH, ISt.app, opI, gO, gB, allB, gval, wrapG, dstOK, setD, mentTm, mentHp, IV.ment, IV.mentL, oneI, lendV, lendP, lent, lentP, idsV, idsL, lkHS, flat, clean, callArgs, callFn, allLent, Gives, Ideal.Fin, conv, conv0, Op.operands, Call.operands, List.append_toArray, Array.append_empty, Option.toArray_none, Option.toArray_some, reduceIte, reduceCtorEq, cond_true, cond_false, Bool.or_false, Bool.or_true, Bool.and_true, Bool.true_and, Bool.and_eq_true, Bool.not_true, Bool.not_false, Nat.reduceAdd, Nat.reduceLT, Nat.reduceLeDiff, Nat.reduceEqDiff, Nat.reduceBEq, Nat.zero_add, ne_eq, not_false_eq_true, true_and, and_true, false_and, and_false, and_self, false_implies, implies_true, forall_const, List.map_cons, List.map_nil, List.nil_append, List.cons_append, List.append_nil, List.all_cons, List.all_nil, Option.map_some, Option.map_none, Option.bind_some, List.getElem?_cons_zero, List.getElem?_cons_succ, List.getD_cons_zero, List.getD_cons_succ, List.length_cons, List.length_nil, List.take_succ_cons, List.take_zero, List.take_nil, List.drop_succ_cons, List.drop_zero, List.drop_nil, ex_clo, btf, or_self, Bool.true_eq_false, Bool.false_eq_true, tab57, tab66, hN, pe, Int.toNat_natCast, lk_impl_graphsOk_impl_Graph_valid, lk_impl_graphsOk_slices_Contains_impl_Graph_impl_Graph, sp_impl_Graph_valid, sp_slices_Contains_impl_Graph_impl_Graph, el, g1, q1, hn]
      omega
    | true =>
      cases q2 : (l.take i).any (fun x => p == x) with
      | true =>
        have hn := hno (by rw [hG, q1, q2]; rfl)
        simp only [V_seq, V_skip, V_ret, V_block, V_region, V_draw, V_cond, brW_true, drawW, WS_nil, WS_cons, pairsOf, W_nil, W_cons, effOp2, WI_nil, WI_cons, KN_seq, KXr_nil, KXr_seq, KXr_block, KXr_back, QE, dynOK, indB, farB, freshB, heapy, asB, effOp, effPure, effPick, effNew, effAlloc, effStore, effCall, giveUp, hasAll, skipE, pureV, pickV, storeV, partV, eltV, loadV, iaddrV, sliceV, over, solid, IV.cells, ofC, strip, lkT, lkH, ISt.app, opI, gO, gB, allB, gval, wrapG, dstOK, setD, mentTm, mentHp, IV.ment, IV.mentL, oneI, lendV, lendP, lent, lentP, idsV, idsL, lkHS, flat, clean, callArgs, callFn, allLent, Gives, Ideal.Fin, conv, conv0, Op.operands, Call.operands, List.append_toArray, Array.append_empty, Option.toArray_none, Option.toArray_some, reduceIte, reduceCtorEq, cond_true, cond_false, Bool.or_false, Bool.and_true, Bool.true_and, Bool.and_eq_true, Bool.not_true, Bool.not_false, Nat.reduceAdd, Nat.reduceLT, Nat.reduceLeDiff, Nat.reduceEqDiff, Nat.reduceBEq, Nat.zero_add, ne_eq, not_false_eq_true, beq_self_eq_true, true_and, and_true, and_false, and_self, implies_true, forall_const, List.map_cons, List.map_nil, List.nil_append, List.cons_append, List.append_nil, List.all_cons, List.all_nil, Option.map_some, Option.map_none, Option.bind_some, List.getElem?_cons_zero, List.getElem?_cons_succ, List.getD_cons_zero, List.getD_cons_succ, List.length_cons, List.length_nil, List.take_succ_cons, List.take_zero, List.take_nil, List.drop_succ_cons, List.drop_zero, List.drop_nil, ex_clo, or_self, Bool.false_eq_true, tab57, tab66, hN, pe, Int.toNat_natCast, isPs_enc, toPs_enc, lk_impl_graphsOk_impl_Graph_valid, lk_impl_graphsOk_slices_Contains_impl_Graph_impl_Graph, sp_impl_Graph_valid, sp_slices_Contains_impl_Graph_impl_Graph, el, g1, q1, q2, encPs_take, hn]
        omega
      | false =>
        have hn := hst (by rw [hG, q1, q2]; rfl)
        simp only [V_seq, V_skip, V_block, V_region, V_draw, V_cond, brW_false, drawW, WS_nil, WS_cons, pairsOf, W_nil, W_cons, effOp2, WI_nil, WI_cons, KN_seq, KN_block, KN_back, dynOK, indB, farB, freshB, heapy, asB, effOp, effPure, effPick, effNew, effAlloc, effStore, effCall, giveUp, hasAll, skipE, pureV, pickV, storeV, binV, partV, eltV, loadV, iaddrV, sliceV, over, solid, IV.cells, ofC, strip, lkT, lkH, ISt.app, opI, gO, gB, allB, gval, wrapG, dstOK, setD, mentTm, mentHp, IV.ment, IV.mentL, oneI, lendV, lendP, lent, lentP, idsV, idsL, lkHS, flat, clean, callArgs, callFn, allLent, Op.operands, Call.operands, List.append_toArray, Array.append_empty, Option.toArray_none, Option.toArray_some, reduceIte, reduceCtorEq, cond_true, cond_false, Bool.or_false, Bool.and_true, Bool.true_and, Bool.and_eq_true, Bool.not_true, Bool.not_false, Nat.reduceAdd, Nat.reduceLT, Nat.reduceLeDiff, Nat.reduceEqDiff, Nat.reduceBEq, Nat.zero_add, ne_eq, not_false_eq_true, beq_self_eq_true, true_and, and_true, and_false, and_self, implies_true, forall_const, List.map_cons, List.map_nil, List.nil_append, List.cons_append, List.append_nil, List.all_cons, List.all_nil, Option.map_some, Option.map_none, Option.bind_some, List.getElem?_cons_zero, List.getElem?_cons_succ, List.getD_cons_zero, List.getD_cons_succ, List.length_cons, List.length_nil, List.take_succ_cons, List.take_zero, List.take_nil, List.drop_succ_cons, List.drop_zero, List.drop_nil, ex_clo, or_self, Bool.false_eq_true, tab57, tab66, hN, pe, Int.toNat_natCast, isPs_enc, toPs_enc, lk_impl_graphsOk_impl_Graph_valid, lk_impl_graphsOk_slices_Contains_impl_Graph_impl_Graph, sp_impl_Graph_valid, sp_slices_Contains_impl_Graph_impl_Graph, el, g1, hw, q1, q2, encPs_take]
        repeat refine And.intro (by first | omega | (simp; done) | (simp; omega)) ?_
        exact ⟨i + 1, id, ⟨by omega, hn⟩, by simp only []; omega, by simp [SLe, SLe0, convTm, convHp, conv, conv0, lkT, lkH, clean]⟩
  · have hie : i = l.length := by simp at h; omega
    subst hie
    have hd : decide ((l.length : Int) ≤ 8) = decide (l.length ≤ 8) := by simp; omega
    have hv := gs_all hj
    simp only [V_seq, V_ret, V_exit, V_region, W_nil, W_cons, effOp2, KN_seq, KXr_nil, KXe_nil, KXe_seq, KXe_block, KXe_back, QE, effOp, effPure, pureV, binV, lenV, ofC, strip, lkT, lkH, ISt.app, opI, gO, gB, allB, gval, wrapG, dstOK, setD, clean, Gives, Ideal.Fin, conv, conv0, Op.operands, Call.operands, List.append_toArray, reduceIte, reduceCtorEq, Nat.reduceLT, Nat.reduceEqDiff, ne_eq, not_false_eq_true, and_self, implies_true, List.nil_append, List.cons_append, List.append_nil, tab57, hN, el, hv, hd]
def sp_impl_graphsOk : PSpec := ⟨fun xs => match xs with | [.sl 2 les] => isPs les | _ => False, fun xs => match xs with | [.sl _ les] => (fun (l : List Pt) => .bool (okGs l)) (toPs les) | _ => .junk, false⟩
theorem gk_impl_graphsOk : ∀ args, sp_impl_graphsOk.pre args → ICall Try.prog 106 args (sp_impl_graphsOk.val args) := by
  intro args h
  unfold sp_impl_graphsOk at h ⊢; simp only at h ⊢; split at h
  · have h0 := h
    obtain ⟨l0, rfl⟩ := isP_ex h0
    simp only [toPs_enc] at *
    exact c_impl_graphsOk _ 
  · exact h.elim
theorem en_impl_graphsOk : Enters Try.prog 106 := enters_of Try.func106 (by kernel_rfl) rfl

def g_spec_validGraphs : List (Nat × PSpec) := [(175, sp_spec_validGraph)]
theorem gok_spec_validGraphs : GOK Try.prog g_spec_validGraphs := gok_cons gk_spec_validGraph en_spec_validGraph (gok0)
theorem lk_spec_validGraphs_spec_validGraph : lkG g_spec_validGraphs 175 = sp_spec_validGraph := rfl
def h_spec_validGraphs : List (Nat × HSpec) := []
theorem hok_spec_validGraphs : HOK Try.prog h_spec_validGraphs := hok0
theorem c_spec_validGraphs (l : List Pt)  : ICall Try.prog 103 [.sl 2 (encPs l)] (.bool (okGs l)) := by
  refine icall_V (G := g_spec_validGraphs) (H := []) [] tabOK mixed gok_spec_validGraphs hok_spec_validGraphs Try.func103 rfl Try.ntmps103 Try.results103 rfl (by kernel_rfl) fun F hN hlen => ?_
  have hl := hlen 0 2 _ rfl
  have el := len_encPs l
  rw [el] at hl
  simp only [V_seq, V_block, V_region, W_nil, W_cons, effOp2, KN_seq, effOp, effPure, pureV, ofC, strip, ISt.app, opI, gO, gB, allB, gval, wrapG, dstOK, setD, enumT, Op.operands, Nat.reduceLT, true_and, and_self, implies_true, List.nil_append, List.cons_append, List.append_nil, hN]
  refine V_loop (α := Nat) ⟨tabOK, mixed, gok_spec_validGraphs, hok_spec_validGraphs⟩ (by kernel_rfl) (fun i => i ≤ l.length ∧ ∀ j, j < i → gsT l j = true) (fun i => ⟨[(3, .num .i64 i), (0, .sl 2 (encPs l))], []⟩) (fun i => l.length - i) 0 id ⟨Nat.zero_le _, fun j h => absurd h (Nat.not_lt_zero j)⟩ (by simp [SLe, SLe0, convTm, convHp, conv, conv0, lkT, lkH, clean]) ?_
  rintro i ⟨hi, hj⟩
  simp only [V_seq, V_region, V_cond, W_nil, W_cons, effOp2, KN_seq, asB, effOp, effPure, pureV, binV, lenV, strip, lkT, ISt.app, opI, gO, gB, allB, gval, wrapG, dstOK, setD, Op.operands, Call.operands, List.append_toArray, reduceIte, reduceCtorEq, Nat.reduceLT, Nat.reduceEqDiff, ne_eq, not_false_eq_true, true_and, and_self, implies_true, List.nil_append, List.cons_append, List.append_nil, tab57, hN, el]
  refine brW_some (fun h => ?_) (fun h => ?_)
  · have hi' : i < l.length := by simpa using h
    have g1 := getD_encPs hi'
    have hw := wr_succ hi' hl
    have hG : gsT l i = (okP (pAt l i) && !((l.take i).any fun x => pAt l i == x)) := rfl
    have hno := gs_no hi'
    have hst := gs_step hj
    obtain ⟨p, hp⟩ : ∃ p, pAt l i = p := ⟨_, rfl⟩
    rw [hp] at hG g1
    cases q1 : okP p with
    | false =>
      have hn := hno (by rw [hG, q1]; rfl)
      simp only [V_seq, V_skip, V_ret, V_block, V_region, V_cond, brW_true, W_nil, W_cons, effOp2, KN_seq, KXr_nil, KXr_seq, KXr_block, KXr_back, QE, asB, effOp, effPure, effCall, giveUp, hasAll, pureV, partV, eltV, loadV, iaddrV, ofC, strip, lkT, lkH, ISt.app, opI, gO, gB, allB, gval, wrapG, dstOK, setD, lendV, lendP, lent, lentP, idsV, idsL, lkHS, flat, clean, callArgs, callFn, allLent, Gives, Ideal.Fin, conv, conv0, Op.operands, reduceIte, reduceCtorEq, cond_true, Bool.or_false, Bool.not_true, Bool.not_false, Nat.reduceAdd, Nat.reduceLT, Nat.reduceLeDiff, Nat.reduceEqDiff, Nat.zero_add, ne_eq, not_false_eq_true, true_and, and_true, and_false, and_self, implies_true, forall_const, List.map_cons, List.map_nil, List.nil_append, List.cons_append, List.append_nil, List.getD_cons_zero, List.length_cons, List.length_nil, List.take_succ_cons, List.take_nil, List.drop_zero, ex_clo, or_self, tab57, tab66, hN, pe, Int.toNat_natCast, lk_spec_validGraphs_spec_validGraph, sp_spec_validGraph, el, g1, q1, hn]
      omega
    | true =>
      simp only [V_seq, V_skip, V_block, V_region, V_cond, brW_false, W_nil, W_cons, effOp2, KN_seq, asB, effOp, effPure, effCall, giveUp, hasAll, pureV, partV, eltV, loadV, iaddrV, ofC, strip, lkT, lkH, ISt.app, opI, gO, gB, allB, gval, wrapG, dstOK, setD, lendV, lendP, lent, lentP, idsV, idsL, lkHS, flat, clean, callArgs, callFn, allLent, Op.operands, reduceIte, reduceCtorEq, cond_true, Bool.or_false, Bool.not_true, Nat.reduceAdd, Nat.reduceLT, Nat.reduceLeDiff, Nat.reduceEqDiff, Nat.zero_add, ne_eq, not_false_eq_true, true_and, and_true, and_false, and_self, implies_true, forall_const, List.map_cons, List.map_nil, List.nil_append, List.cons_append, List.append_nil, List.getD_cons_zero, List.length_cons, List.length_nil, List.take_succ_cons, List.take_nil, List.drop_zero, ex_clo, or_self, tab57, tab66, hN, pe, Int.toNat_natCast, lk_spec_validGraphs_spec_validGraph, sp_spec_validGraph, el, g1, q1]
      refine ⟨⟨by omega, by omega⟩, ?_⟩
      refine V_loop (α := Nat) ⟨tabOK, mixed, gok_spec_validGraphs, hok_spec_validGraphs⟩ (by kernel_rfl) (fun k => k ≤ i ∧ (l.take k).any (fun x => p == x) = false) (fun k => ⟨[(4, .num .i64 k), (3, .num .i64 i), (0, .sl 2 (encPs l))], []⟩) (fun k => i - k) 0 id ⟨Nat.zero_le _, rfl⟩ (by simp [SLe, SLe0, convTm, convHp, conv, conv0, lkT, lkH, clean]) ?_
      rintro k ⟨hk, hkn⟩
      simp only [V_seq, V_region, V_cond, W_nil, W_cons, effOp2, KN_seq, asB, effOp, effPure, pureV, binV, strip, lkT, ISt.app, opI, gO, gB, allB, gval, wrapG, dstOK, setD, Op.operands, reduceIte, reduceCtorEq, Nat.reduceLT, Nat.reduceEqDiff, true_and, and_self, implies_true, List.nil_append, List.cons_append, List.append_nil, hN]
      refine brW_some (fun h => ?_) (fun h => ?_)
      · have hk' : k < i := by simpa using h
        have hkl : k < l.length := by omega
        have g2 := getD_encPs hkl
        have hw2 := wr_succ hkl hl
        have hst2 : (l.take (k + 1)).any (fun x => p == x) = ((l.take k).any (fun x => p == x) || p == pAt l k) := by
          rw [take_succ_g (d := (0, 0)) hkl, List.any_append]; simp
        have hmem : pAt l k ∈ l.take i := by
          have : pAt l k = (l.take i)[k]'(by rw [List.length_take]; omega) := by simp [pAt, List.getD, hkl]
          rw [this]; exact List.getElem_mem _
        have hcm : ∀ q : Pt, (q == p) = (p == q) := fun q => by rw [Bool.eq_iff_iff]; simp only [beq_iff_eq]; exact ⟨Eq.symm, Eq.symm⟩
        generalize pAt l k = q at *
        cases q2 : (p == q) with
        | true =>
          have hn := hno (by
            rw [hG, q1]
            have : (l.take i).any (fun x => p == x) = true := by rw [List.any_eq_true]; exact ⟨q, hmem, q2⟩
            rw [this]; rfl)
          simp only [V_seq, V_skip, V_ret, V_block, V_region, V_draw, V_cond, brW_true, drawW, pairsOf, W_nil, W_cons, WD_nil, WD_cons, effOp2, KN_seq, KXr_nil, KXr_seq, KXr_block, KXr_back, QE, asB, effOp, effPure, pureV, binV, partV, eltV, loadV, iaddrV, ofC, strip, lkT, lkH, ISt.app, opI, gO, gB, allB, gval, wrapG, dstOK, setD, clean, Gives, Ideal.Fin, conv, conv0, eqL, numsOnly, Op.operands, reduceIte, reduceCtorEq, Bool.and_true, Nat.reduceAdd, Nat.reduceLT, Nat.reduceLeDiff, Nat.reduceEqDiff, Nat.zero_add, ne_eq, not_false_eq_true, true_and, and_true, and_false, and_self, implies_true, forall_const, List.nil_append, List.cons_append, List.append_nil, List.getD_cons_zero, List.length_cons, List.length_nil, List.take_succ_cons, List.take_nil, List.drop_zero, tab57, tab66, hN, Int.toNat_natCast, el, g1, g2, eqP, hcm, q2, hn]
          omega
        | false =>
          rw [hkn, q2] at hst2
          simp only [V_seq, V_skip, V_block, V_region, V_draw, V_cond, brW_false, drawW, pairsOf, W_nil, W_cons, WD_nil, WD_cons, effOp2, KN_seq, KN_block, KN_back, asB, effOp, effPure, pureV, binV, partV, eltV, loadV, iaddrV, ofC, strip, lkT, ISt.app, opI, gO, gB, allB, gval, wrapG, dstOK, setD, eqL, numsOnly, Op.operands, reduceIte, reduceCtorEq, Bool.and_true, Nat.reduceAdd, Nat.reduceLT, Nat.reduceLeDiff, Nat.reduceEqDiff, Nat.zero_add, ne_eq, not_false_eq_true, true_and, and_true, and_false, and_self, implies_true, forall_const, List.nil_append, List.cons_append, List.append_nil, List.getD_cons_zero, List.length_cons, List.length_nil, List.take_succ_cons, List.take_nil, List.drop_zero, tab57, tab66, hN, Int.toNat_natCast, el, g1, g2, hw2, eqP, hcm, q2]
          repeat refine And.intro (by first | omega | (simp; done) | (simp; omega)) ?_
          exact ⟨k + 1, id, ⟨by omega, hst2⟩, by simp only []; omega, by simp [SLe, SLe0, convTm, convHp, conv, conv0, lkT, lkH, clean]⟩
      · have hke : k = i := by simp at h; omega
        subst hke
        have hn := hst (by rw [hG, q1, hkn]; rfl)
        simp only [V_seq, V_ret, V_exit, V_region, W_nil, W_cons, effOp2, KN_seq, KN_block, KN_back, KXr_nil, KXe_nil, KXe_seq, KXe_block, KXe_back, QE, effOp, effPure, pureV, binV, lenV, ofC, strip, lkT, lkH, ISt.app, opI, gO, gB, allB, gval, wrapG, dstOK, setD, clean, Gives, Ideal.Fin, conv, conv0, Op.operands, Call.operands, List.append_toArray, reduceIte, reduceCtorEq, Nat.reduceLT, Nat.reduceEqDiff, ne_eq, not_false_eq_true, true_and, and_true, and_self, implies_true, List.nil_append, List.cons_append, List.append_nil, tab57, hN, hw]
        exact ⟨k + 1, id, ⟨by omega, hn⟩, by simp only []; omega, by simp [SLe, SLe0, convTm, convHp, conv, conv0, lkT, lkH, clean]⟩
  · have hie : i = l.length := by simp at h; omega
    subst hie
    have hd : decide ((l.length : Int) ≤ 8) = decide (l.length ≤ 8) := by simp; omega
    have hv := gs_all hj
    simp only [V_seq, V_ret, V_exit, V_region, W_nil, W_cons, effOp2, KN_seq, KXr_nil, KXe_nil, KXe_seq, KXe_block, KXe_back, QE, effOp, effPure, pureV, binV, lenV, ofC, strip, lkT, lkH, ISt.app, opI, gO, gB, allB, gval, wrapG, dstOK, setD, clean, Gives, Ideal.Fin, conv, conv0, Op.operands, Call.operands, List.append_toArray, reduceIte, reduceCtorEq, Nat.reduceLT, Nat.reduceEqDiff, ne_eq, not_false_eq_true, and_self, implies_true, List.nil_append, List.cons_append, List.append_nil, tab57, hN, el, hv, hd]
def sp_spec_validGraphs : PSpec := ⟨fun xs => match xs with | [.sl 2 les] => isPs les | _ => False, fun xs => match xs with | [.sl _ les] => (fun (l : List Pt) => .bool (okGs l)) (toPs les) | _ => .junk, false⟩
theorem gk_spec_validGraphs : ∀ args, sp_spec_validGraphs.pre args → ICall Try.prog 103 args (sp_spec_validGraphs.val args) := by
  intro args h
  unfold sp_spec_validGraphs at h ⊢; simp only at h ⊢; split at h
  · have h0 := h
    obtain ⟨l0, rfl⟩ := isP_ex h0
    simp only [toPs_enc] at *
    exact c_spec_validGraphs _ 
  · exact h.elim
theorem en_spec_validGraphs : Enters Try.prog 103 := enters_of Try.func103 (by kernel_rfl) rfl

theorem okGs_facts {l : List Pt} (h : okGs l = true) : l.length ≤ 8 ∧ (∀ q ∈ l, okP q = true) ∧ l.Nodup := by
  simp only [okGs, Bool.and_eq_true, List.all_eq_true, decide_eq_true_eq, List.mem_range] at h
  obtain ⟨h1, h2⟩ := h
  refine ⟨h2, fun q hq => ?_, ?_⟩
  · obtain ⟨i, hi, rfl⟩ := mem_pA hq
    have := h1 i hi
    simp only [gsT, Bool.and_eq_true] at this
    exact this.1
  · refine List.pairwise_iff_getElem.2 fun i j hi hj hij e => ?_
    have := h1 j hj
    simp only [gsT, Bool.and_eq_true, Bool.not_eq_true', List.any_eq_false] at this
    refine this.2 (l[i]) ?_ ?_
    · have : l[i] = (l.take j)[i]'(by rw [List.length_take]; omega) := by simp
      rw [this]; exact List.getElem_mem _
    · have : pAt l j = l[j] := by simp [pAt, List.getD, hj]
      rw [this]; simpa using e.symm

/-- Where two graphs meet. -/
def mtQ (g h : Pt) : Qd := (mtX g h, ratQ (g.1 * (mtX g h).1 - g.2 * (mtX g h).2) (mtX g h).2)
theorem mt_okR {g h : Pt} (hg : in1 g) (hh : in1 h) (hne : g.1 ≠ h.1) : okR (mtX g h) := by
  obtain ⟨h1, h2, h3, h4, h5⟩ := mtX_bd hg hh hne
  exact ⟨h1, by omega, h5, by omega, by omega⟩
def g_impl_Graph_meet : List (Nat × PSpec) := [(146, sp_impl_reduced)]
theorem gok_impl_Graph_meet : GOK Try.prog g_impl_Graph_meet := gok_cons gk_impl_reduced en_impl_reduced (gok0)
theorem lk_impl_Graph_meet_impl_reduced : lkG g_impl_Graph_meet 146 = sp_impl_reduced := rfl
def h_impl_Graph_meet : List (Nat × HSpec) := []
theorem hok_impl_Graph_meet : HOK Try.prog h_impl_Graph_meet := hok0
theorem c_impl_Graph_meet (g : Pt) (h : Pt) (hg : okP g = true) (hh : okP h = true) (hne : g.1 ≠ h.1) : ICall Try.prog 178 [encP g, encP h] (.tup [encQ (mtQ g h), .bool true]) := by
  refine icall_of_hcall (v := .tup [encQ (mtQ g h), .bool true]) (hp' := []) id ?_ (by simp [SLe0, convTm, convHp, conv, convL, conv0, lkT, clean, encQ]) (by simp [idsV, idsL, encQ])
  refine hcall_V (G := g_impl_Graph_meet) (H := []) [(4, [(0, 14), (1, 14), (2, 14), (3, 14), (4, 14), (5, 14), (6, 14), (7, 14), (8, 14), (9, 14), (10, 14), (12, 14)])] tabOK mixed gok_impl_Graph_meet hok_impl_Graph_meet Try.func178 rfl Try.ntmps178 Try.results178 rfl (by kernel_rfl) fun F hN hlen => ?_
  have ig := okP_in1 hg
  have ih := okP_in1 hh
  obtain ⟨h1, h2, h3, h4, h5⟩ := mtX_bd ig ih hne
  unfold in1 at ig ih
  have d0 : (g.1 == h.1) = false := by rw [beq_eq_false_iff_ne]; exact hne
  have w1 : IntKind.i64.wrap (g.2 - h.2) = g.2 - h.2 := wr (by omega) (by omega)
  have w2 : IntKind.i64.wrap (g.1 - h.1) = g.1 - h.1 := wr (by omega) (by omega)
  have z1 : g.1 - h.1 ≠ 0 := by omega
  have z2 : -20000000 ≤ g.1 - h.1 ∧ g.1 - h.1 ≤ 20000000 := by omega
  have z3 : -20000000000 ≤ g.2 - h.2 ∧ g.2 - h.2 ≤ 20000000000 := by omega
  have hr : ratQ (g.2 - h.2) (g.1 - h.1) = mtX g h := rfl
  have hv : mtQ g h = (mtX g h, ratQ (g.1 * (mtX g h).1 - g.2 * (mtX g h).2) (mtX g h).2) := rfl
  obtain ⟨x, hx⟩ : ∃ x, mtX g h = x := ⟨_, rfl⟩
  rw [hx] at h1 h2 h3 h4 hr hv
  have m1 := mulB (A := 1000) (B := 2000) (x := g.1) (y := x.1) (by omega) (by omega)
  have m2 := mulB (A := 1000) (B := 2000) (x := g.2) (y := x.2) (by omega) (by omega)
  have w3 : IntKind.i64.wrap (g.1 * x.1) = g.1 * x.1 := wr (by omega) (by omega)
  have w4 : IntKind.i64.wrap (g.2 * x.2) = g.2 * x.2 := wr (by omega) (by omega)
  have w5 : IntKind.i64.wrap (g.1 * x.1 - g.2 * x.2) = g.1 * x.1 - g.2 * x.2 := wr (by omega) (by omega)
  have z4 : x.2 ≠ 0 := by omega
  have z5 : -20000000 ≤ x.2 ∧ x.2 ≤ 20000000 := by omega
  have z6 : -20000000000 ≤ g.1 * x.1 - g.2 * x.2 ∧ g.1 * x.1 - g.2 * x.2 ≤ 20000000000 := by omega
  simp only [V_seq, V_skip, V_ret, V_region, V_draw, V_cond, brW_false, drawW, WS_nil, pairsOf, W_nil, W_cons, effOp2, WI_nil, WI_cons, KN_seq, KXr_nil, QE, dynOK, indB, farB, freshB, heapy, asB, effOp, effPure, effNew, effAlloc, effBox, effStore, effCall, giveUp, hasAll, skipE, pureV, storeV, binV, partV, loadV, faddrV, over, solid, buildL, IV.cells, ofC, strip, lkT, lkH, ISt.app, opI, gO, gB, allB, gval, wrapG, dstOK, setD, mentTm, mentHp, IV.ment, IV.mentL, oneI, lendV, lendP, lent, lentP, idsV, idsL, lkHS, flat, flatL, clean, cleanL, callArgs, callFn, allLent, enumT, conv, conv0, convL, IBlk.shape, Op.operands, Call.operands, List.append_toArray, reduceIte, reduceCtorEq, cond_true, cond_false, Bool.or_false, Bool.and_true, Bool.and_eq_true, Bool.not_true, Bool.not_false, Nat.reduceAdd, Nat.reduceLT, Nat.reduceLeDiff, Nat.reduceEqDiff, Nat.reduceBEq, Nat.add_zero, Nat.zero_add, ne_eq, not_false_eq_true, true_and, and_true, and_false, and_self, implies_true, List.map_cons, List.map_nil, List.nil_append, List.cons_append, List.append_nil, List.all_cons, List.all_nil, Option.map_some, List.getD_cons_zero, List.getD_cons_succ, List.length_cons, List.length_nil, List.take_succ_cons, List.take_zero, List.take_nil, List.drop_succ_cons, List.drop_zero, List.drop_nil, ex_clo, or_self, tab3, tab37, tab39, tab66, hN, encP, encQ, FinH, resA, resL, resV, SLe, SLe0, convTm, convHp, lk_impl_Graph_meet_impl_reduced, sp_impl_reduced, d0, w1, w2, w3, w4, w5, z1, z2, z3, z4, z5, z6, hr, hv]
  exact ⟨id, List.nodup_nil, fun _ _ _ => rfl⟩
def sp_impl_Graph_meet : PSpec := ⟨fun xs => match xs with | [.agg [.num .i64 g1, .num .i64 g2], .agg [.num .i64 h1, .num .i64 h2]] => ((fun (g : Pt) (h : Pt) => okP g = true) (g1, g2) (h1, h2)) ∧ ((fun (g : Pt) (h : Pt) => okP h = true) (g1, g2) (h1, h2)) ∧ ((fun (g : Pt) (h : Pt) => g.1 ≠ h.1) (g1, g2) (h1, h2)) | _ => False, fun xs => match xs with | [.agg [.num _ g1, .num _ g2], .agg [.num _ h1, .num _ h2]] => (fun (g : Pt) (h : Pt) => .tup [encQ (mtQ g h), .bool true]) (g1, g2) (h1, h2) | _ => .junk, false⟩
theorem gk_impl_Graph_meet : ∀ args, sp_impl_Graph_meet.pre args → ICall Try.prog 178 args (sp_impl_Graph_meet.val args) := by
  intro args h
  unfold sp_impl_Graph_meet at h ⊢; simp only at h ⊢; split at h
  · obtain ⟨h0, h1, h2⟩ := h
    simp only [toPs_enc] at *
    exact c_impl_Graph_meet (_, _) (_, _) h0 h1 h2
  · exact h.elim
theorem en_impl_Graph_meet : Enters Try.prog 178 := enters_of Try.func178 (by kernel_rfl) rfl

theorem side_okR {l : List Pt} {g : Pt} {s : Bool} {i : Nat} {x : Pt} (hin : in1 g) (hl : ∀ q ∈ l, in1 q) (hi : i ≤ l.length) (h : SideI l g s i x) (hx : x.2 ≠ 0) : okR x := by
  obtain ⟨h1, h2, h3, h4, h5⟩ := side_ok hin hl hi h hx
  exact ⟨h1, by omega, h5, by omega, by omega⟩
def g_impl_tops : List (Nat × PSpec) := [(178, sp_impl_Graph_meet), (82, sp_impl_Rat_compare)]
theorem gok_impl_tops : GOK Try.prog g_impl_tops := gok_cons gk_impl_Graph_meet en_impl_Graph_meet (gok_cons gk_impl_Rat_compare en_impl_Rat_compare (gok0))
theorem lk_impl_tops_impl_Graph_meet : lkG g_impl_tops 178 = sp_impl_Graph_meet := rfl
theorem lk_impl_tops_impl_Rat_compare : lkG g_impl_tops 82 = sp_impl_Rat_compare := rfl
def h_impl_tops : List (Nat × HSpec) := []
theorem hok_impl_tops : HOK Try.prog h_impl_tops := hok0
theorem c_impl_tops (l : List Pt) (g : Pt) (hl : ∀ q ∈ l, okP q = true) (hg : okP g = true) (hsz : l.length ≤ 1000000) : ICall Try.prog 107 [.sl 2 (encPs l), encP g] (.bool (topB l g)) := by
  refine icall_V (G := g_impl_tops) (H := []) [] tabOK mixed gok_impl_tops hok_impl_tops Try.func107 rfl Try.ntmps107 Try.results107 rfl (by kernel_rfl) fun F hN hlen => ?_
  have el := len_encPs l
  have ig := okP_in1 hg
  have il : ∀ q ∈ l, in1 q := fun q hq => okP_in1 (hl q hq)
  simp only [V_seq, V_block, V_region, W_nil, W_cons, effOp2, KN_seq, effOp, effPure, effNew, effAlloc, effBox, skipE, pureV, lenV, solid, IV.cells, ofC, strip, lkT, ISt.app, opI, gO, gB, allB, gval, wrapG, dstOK, setD, mentTm, mentHp, IV.ment, IV.mentL, oneI, enumT, Op.operands, Call.operands, List.append_toArray, reduceIte, reduceCtorEq, cond_true, Bool.or_false, Bool.and_true, Nat.reduceLT, Nat.reduceEqDiff, Nat.reduceBEq, Nat.zero_add, ne_eq, not_false_eq_true, true_and, and_self, implies_true, List.nil_append, List.cons_append, List.append_nil, List.all_cons, List.all_nil, tab37, tab57, hN, encP, el]
  refine V_loop (α := Nat × Pt × Pt) ⟨tabOK, mixed, gok_impl_tops, hok_impl_tops⟩ (by kernel_rfl) (fun b => b.1 ≤ l.length ∧ (∀ j, j < b.1 → ¬ ((pA l j).1 = g.1 ∧ (pA l j).2 < g.2)) ∧ SideI l g true b.1 b.2.1 ∧ SideI l g false b.1 b.2.2)
    (fun b => ⟨[(13, .num .i64 b.1), (12, .num .i64 l.length), (11, .sl 2 (encPs l)), (6, .ptr 6 0), (5, .ptr 5 0), (3, .ptr 3 0)], [(6, some (.box 37 [.num .i64 b.2.2.1, .num .i64 b.2.2.2])), (5, some (.box 37 [.num .i64 b.2.1.1, .num .i64 b.2.1.2])), (3, some (.box 66 [.num .i64 g.1, .num .i64 g.2]))]⟩)
    (fun b => l.length - b.1) (0, (0, 0), (0, 0)) id ⟨Nat.zero_le _, fun j h => absurd h (Nat.not_lt_zero j), side_zero, side_zero⟩ (by simp [SLe, SLe0, convTm, convHp, convB, conv, conv0, convL, lkT, lkH, clean]) ?_
  rintro ⟨i, lo, hi⟩ ⟨hi0, hb, hlo, hhi⟩
  simp only [] at hi0 hb hlo hhi
  simp only [V_seq, V_region, V_cond, W_nil, W_cons, effOp2, KN_seq, asB, effOp, effPure, pureV, binV, strip, lkT, ISt.app, opI, gO, gB, allB, gval, wrapG, dstOK, setD, Op.operands, reduceIte, Nat.reduceLT, Nat.reduceEqDiff, true_and, and_self, implies_true, List.nil_append, List.cons_append, hN]
  refine brW_some (fun h => ?_) (fun h => ?_)
  · have hi' : i < l.length := by simpa using h
    have g0 := getD_encPs hi'
    have hw := wr_succ hi' (by rw [maxLen_eq]; omega)
    have hm := pA_mem hi'
    have hbs : ¬ ((pA l i).1 = g.1 ∧ (pA l i).2 < g.2) → ∀ j, j < i + 1 → ¬ ((pA l j).1 = g.1 ∧ (pA l j).2 < g.2) := fun h j hj => by
      rcases Nat.lt_or_ge j i with c | c
      · exact hb j c
      · rw [show j = i by omega]; exact h
    have s1 := fun h => side_skip hlo h
    have s2 := fun h => side_skip hhi h
    have n1 := fun h1 h2 => side_new ig il hi' hlo h1 h2
    have n2 := fun h1 h2 => side_new ig il hi' hhi h1 h2
    have k1 := fun h1 h2 => side_keep hlo h1 h2
    have k2 := fun h1 h2 => side_keep hhi h1 h2
    have o1 := side_okR ig il hi0 hlo
    have o2 := side_okR ig il hi0 hhi
    have hno : (pA l i).1 = g.1 → (pA l i).2 < g.2 → topB l g = false := top_no hm
    have hpa : pAt l i = pA l i := rfl
    rw [hpa] at g0
    obtain ⟨h, hh⟩ : ∃ h, pA l i = h := ⟨_, rfl⟩
    rw [hh] at g0 hm hbs s1 s2 n1 n2 k1 k2 hno
    have okh := hl h hm
    cases e1 : (h == g) with
    | true =>
      have e : h = g := by simpa using e1
      have d1 := s1 (by rw [e]; simp [dirB])
      have d2 := s2 (by rw [e]; simp [dirB])
      have d3 := hbs (by rw [e]; omega)
      simp only [V_seq, V_skip, V_ret, V_exit, V_block, V_region, V_cond, brW_true, W_nil, W_cons, effOp2, KN_seq, KN_back, KXr_nil, KXe_nil, KXe_seq, KXe_block, KXe_back, QE, asB, effOp, effPure, effPick, effNew, effAlloc, effStore, effCall, giveUp, hasAll, skipE, pureV, pickV, storeV, binV, partV, eltV, loadV, faddrV, iaddrV, over, solid, IV.cells, ofC, strip, lkT, lkH, ISt.app, opI, gO, gB, allB, gval, wrapG, dstOK, setD, mentTm, mentHp, IV.ment, IV.mentL, oneI, lendV, lendP, lent, lentP, idsV, idsL, lkHS, flat, flatL, clean, cleanL, callArgs, callFn, allLent, Gives, Ideal.Fin, conv, conv0, IBlk.shape, eqL, numsOnly, Op.operands, reduceIte, reduceCtorEq, cond_true, Bool.or_false, Bool.true_or, Bool.and_true, Bool.and_eq_true, Bool.not_true, Nat.reduceAdd, Nat.reduceLT, Nat.reduceLeDiff, Nat.reduceEqDiff, Nat.reduceBEq, Nat.add_zero, Nat.zero_add, ne_eq, not_false_eq_true, true_and, and_true, and_false, and_self, implies_true, forall_const, List.map_cons, List.map_nil, List.nil_append, List.cons_append, List.append_nil, List.all_cons, List.all_nil, Option.map_some, Option.bind_some, List.getElem?_cons_zero, List.getElem?_cons_succ, List.getD_cons_zero, List.getD_cons_succ, List.length_cons, List.length_nil, List.take_succ_cons, List.take_zero, List.take_nil, List.drop_succ_cons, List.drop_zero, List.drop_nil, ex_clo, or_self, tab3, tab37, tab39, tab57, tab66, hN, pe, Int.toNat_natCast, encQ, lk_impl_tops_impl_Graph_meet, lk_impl_tops_impl_Rat_compare, sp_impl_Graph_meet, sp_impl_Rat_compare, el, g0, hw, eqP, e1]
      repeat refine And.intro (by first | omega | (simp; done) | (simp; omega)) ?_
      exact ⟨(i + 1, lo, hi), id, ⟨by simp only []; omega, d3, d1, d2⟩, by simp only []; omega, by simp [SLe, SLe0, convTm, convHp, convB, conv, conv0, convL, lkT, lkH, clean]⟩
    | false =>
      cases e2 : (h.1 == g.1) with
      | true =>
        have e : h.1 = g.1 := by simpa using e2
        have e6 : (h.2 == g.2) = false := by
          have : h.2 ≠ g.2 := fun q => by
            have : h = g := Prod.ext e q
            rw [this] at e1; simp at e1
          simpa using this
        cases e3 : decide (h.2 < g.2) with
        | true =>
          have hn := hno e (of_decide_eq_true e3)
          simp only [V_seq, V_skip, V_ret, V_block, V_region, V_cond, brW_true, brW_false, W_nil, W_cons, effOp2, KN_seq, KXr_nil, KXr_seq, KXr_block, KXr_back, QE, asB, effOp, effPure, effPick, effNew, effAlloc, effStore, skipE, pureV, pickV, storeV, binV, partV, eltV, loadV, faddrV, iaddrV, over, solid, IV.cells, ofC, strip, lkT, lkH, ISt.app, opI, gO, gB, allB, gval, wrapG, dstOK, setD, mentTm, mentHp, IV.ment, IV.mentL, oneI, clean, Gives, Ideal.Fin, conv, conv0, IBlk.shape, eqL, numsOnly, Op.operands, reduceIte, reduceCtorEq, cond_true, Bool.or_false, Bool.and_true, Bool.and_false, Nat.reduceAdd, Nat.reduceLT, Nat.reduceLeDiff, Nat.reduceEqDiff, Nat.reduceBEq, Nat.add_zero, Nat.zero_add, ne_eq, not_false_eq_true, beq_self_eq_true, true_and, and_true, and_false, and_self, implies_true, forall_const, List.nil_append, List.cons_append, List.append_nil, List.all_cons, List.all_nil, Option.map_some, Option.bind_some, List.getElem?_cons_zero, List.getElem?_cons_succ, List.getD_cons_zero, List.getD_cons_succ, List.length_cons, List.length_nil, List.take_succ_cons, List.take_zero, List.take_nil, List.drop_succ_cons, List.drop_zero, List.drop_nil, Bool.true_eq_false, tab3, tab57, tab66, hN, Int.toNat_natCast, el, g0, e2, e6, e3, hn]
          omega
        | false =>
          have d1 := s1 (by simp [dirB, e])
          have d2 := s2 (by simp [dirB, e])
          have d3 := hbs (fun q => by have := of_decide_eq_false e3; omega)
          simp only [V_seq, V_skip, V_ret, V_exit, V_block, V_region, V_cond, brW_true, brW_false, W_nil, W_cons, effOp2, KN_seq, KN_back, KXr_nil, KXe_nil, KXe_seq, KXe_block, KXe_back, QE, asB, effOp, effPure, effPick, effNew, effAlloc, effStore, effCall, giveUp, hasAll, skipE, pureV, pickV, storeV, binV, partV, eltV, loadV, faddrV, iaddrV, over, solid, IV.cells, ofC, strip, lkT, lkH, ISt.app, opI, gO, gB, allB, gval, wrapG, dstOK, setD, mentTm, mentHp, IV.ment, IV.mentL, oneI, lendV, lendP, lent, lentP, idsV, idsL, lkHS, flat, flatL, clean, cleanL, callArgs, callFn, allLent, Gives, Ideal.Fin, conv, conv0, IBlk.shape, eqL, numsOnly, Op.operands, reduceIte, reduceCtorEq, cond_true, Bool.or_false, Bool.true_or, Bool.and_true, Bool.and_false, Bool.and_eq_true, Bool.not_true, Nat.reduceAdd, Nat.reduceLT, Nat.reduceLeDiff, Nat.reduceEqDiff, Nat.reduceBEq, Nat.add_zero, Nat.zero_add, ne_eq, not_false_eq_true, beq_self_eq_true, true_and, and_true, and_false, and_self, implies_true, forall_const, List.map_cons, List.map_nil, List.nil_append, List.cons_append, List.append_nil, List.all_cons, List.all_nil, Option.map_some, Option.bind_some, List.getElem?_cons_zero, List.getElem?_cons_succ, List.getD_cons_zero, List.getD_cons_succ, List.length_cons, List.length_nil, List.take_succ_cons, List.take_zero, List.take_nil, List.drop_succ_cons, List.drop_zero, List.drop_nil, ex_clo, or_self, Bool.true_eq_false, tab3, tab37, tab39, tab57, tab66, hN, pe, Int.toNat_natCast, encQ, lk_impl_tops_impl_Graph_meet, lk_impl_tops_impl_Rat_compare, sp_impl_Graph_meet, sp_impl_Rat_compare, el, g0, hw, e2, e6, e3]
          repeat refine And.intro (by first | omega | (simp; done) | (simp; omega)) ?_
          exact ⟨(i + 1, lo, hi), id, ⟨by simp only []; omega, d3, d1, d2⟩, by simp only []; omega, by simp [SLe, SLe0, convTm, convHp, convB, conv, conv0, convL, lkT, lkH, clean]⟩
      | false =>
        have ne : g.1 ≠ h.1 := fun q => by rw [q] at e2; simp at e2
        have d3 := hbs (fun q => ne q.1.symm)
        have ox := mt_okR ig (okP_in1 okh) ne
        have hq1 : (mtQ g h).1 = mtX g h := rfl
        obtain ⟨x, hx⟩ : ∃ x, mtX g h = x := ⟨_, rfl⟩
        obtain ⟨Q, hQ⟩ : ∃ Q, mtQ g h = Q := ⟨_, rfl⟩
        rw [hx] at n1 n2 k1 k2 ox hq1
        rw [hQ] at hq1
        rcases Int.lt_or_gt_of_ne ne with c | c
        · have c1 : decide (h.1 < g.1) = false := by simp only [decide_eq_false_iff_not]; omega
          have c2 : decide (g.1 < h.1) = true := by simpa using c
          have dl := s1 (by simp [dirB]; omega)
          have dh : dirB false g h = true := by simpa [dirB] using c
          cases e4 : (hi.2 == 0) with
          | true =>
            have hn := n2 dh (.inl (by simpa using e4))
            simp only [V_seq, V_skip, V_block, V_region, V_cond, brW_true, brW_false, W_nil, W_cons, effOp2, KN_seq, KN_block, KN_back, asB, effOp, effPure, effPick, effNew, effAlloc, effStore, effCall, giveUp, hasAll, skipE, pureV, pickV, storeV, binV, partV, eltV, loadV, faddrV, iaddrV, over, solid, IV.cells, ofC, strip, lkT, lkH, ISt.app, opI, gO, gB, allB, gval, wrapG, dstOK, setD, mentTm, mentHp, IV.ment, IV.mentL, oneI, lendV, lendP, lent, lentP, idsV, idsL, lkHS, flat, flatL, clean, cleanL, callArgs, callFn, allLent, IBlk.shape, eqL, numsOnly, Op.operands, reduceIte, reduceCtorEq, cond_true, cond_false, Bool.or_false, Bool.or_true, Bool.and_true, Bool.and_false, Bool.false_and, Bool.not_true, Bool.not_false, Nat.reduceAdd, Nat.reduceLT, Nat.reduceLeDiff, Nat.reduceEqDiff, Nat.reduceBEq, Nat.add_zero, Nat.zero_add, ne_eq, not_false_eq_true, beq_self_eq_true, true_and, and_true, false_and, and_false, and_self, false_implies, implies_true, forall_const, List.map_cons, List.map_nil, List.nil_append, List.cons_append, List.append_nil, List.all_cons, List.all_nil, Option.map_some, Option.bind_some, List.getElem?_cons_zero, List.getElem?_cons_succ, List.getD_cons_zero, List.getD_cons_succ, List.length_cons, List.length_nil, List.take_succ_cons, List.take_zero, List.take_nil, List.drop_succ_cons, List.drop_zero, List.drop_nil, ex_clo, bft, btf, or_self, Bool.true_eq_false, Bool.false_eq_true, tab3, tab37, tab39, tab57, tab66, hN, pe, Int.toNat_natCast, encQ, lk_impl_tops_impl_Graph_meet, lk_impl_tops_impl_Rat_compare, sp_impl_Graph_meet, sp_impl_Rat_compare, el, g0, hw, e2, okh, hg, ne, hQ, hq1, c1, c2, e4]
            repeat refine And.intro (by first | omega | (simp; done) | (simp; omega)) ?_
            exact ⟨(i + 1, lo, x), id, ⟨by simp only []; omega, d3, dl, hn⟩, by simp only []; omega, by simp [SLe, SLe0, convTm, convHp, convB, conv, conv0, convL, lkT, lkH, clean]⟩
          | false =>
            have h0 : hi.2 ≠ 0 := by simpa using e4
            have oh := o2 h0
            cases e5 : ltR x hi with
            | true =>
              have hn := n2 dh (.inr e5)
              simp only [V_seq, V_skip, V_block, V_region, V_cond, brW_true, brW_false, W_nil, W_cons, effOp2, KN_seq, KN_block, KN_back, asB, effOp, effPure, effPick, effNew, effAlloc, effStore, effCall, giveUp, hasAll, skipE, pureV, pickV, storeV, binV, partV, eltV, loadV, faddrV, iaddrV, over, solid, IV.cells, ofC, strip, lkT, lkH, ISt.app, opI, gO, gB, allB, gval, wrapG, dstOK, setD, mentTm, mentHp, IV.ment, IV.mentL, oneI, lendV, lendP, lent, lentP, idsV, idsL, lkHS, flat, flatL, clean, cleanL, callArgs, callFn, allLent, IBlk.shape, eqL, numsOnly, Op.operands, reduceIte, reduceCtorEq, cond_true, cond_false, Bool.or_false, Bool.or_true, Bool.and_true, Bool.false_and, Bool.not_true, Bool.not_false, Nat.reduceAdd, Nat.reduceLT, Nat.reduceLeDiff, Nat.reduceEqDiff, Nat.reduceBEq, Nat.add_zero, Nat.zero_add, ne_eq, not_false_eq_true, beq_self_eq_true, true_and, and_true, false_and, and_false, and_self, false_implies, implies_true, forall_const, List.map_cons, List.map_nil, List.nil_append, List.cons_append, List.append_nil, List.all_cons, List.all_nil, Option.map_some, Option.bind_some, List.getElem?_cons_zero, List.getElem?_cons_succ, List.getD_cons_zero, List.getD_cons_succ, List.length_cons, List.length_nil, List.take_succ_cons, List.take_zero, List.take_nil, List.drop_succ_cons, List.drop_zero, List.drop_nil, ex_clo, bft, or_self, Bool.true_eq_false, Bool.false_eq_true, tab3, tab37, tab39, tab57, tab66, hN, pe, Int.toNat_natCast, encQ, lk_impl_tops_impl_Graph_meet, lk_impl_tops_impl_Rat_compare, sp_impl_Graph_meet, sp_impl_Rat_compare, el, g0, hw, e2, okh, hg, ne, hQ, hq1, c1, c2, e4, ox, oh, cmpR_neg, e5]
              repeat refine And.intro (by first | omega | (simp; done) | (simp; omega)) ?_
              exact ⟨(i + 1, lo, x), id, ⟨by simp only []; omega, d3, dl, hn⟩, by simp only []; omega, by simp [SLe, SLe0, convTm, convHp, convB, conv, conv0, convL, lkT, lkH, clean]⟩
            | false =>
              have hn := k2 h0 e5
              simp only [V_seq, V_skip, V_block, V_region, V_cond, brW_false, W_nil, W_cons, effOp2, KN_seq, KN_block, KN_back, asB, effOp, effPure, effPick, effNew, effAlloc, effStore, effCall, giveUp, hasAll, skipE, pureV, pickV, storeV, binV, partV, eltV, loadV, faddrV, iaddrV, over, solid, IV.cells, ofC, strip, lkT, lkH, ISt.app, opI, gO, gB, allB, gval, wrapG, dstOK, setD, mentTm, mentHp, IV.ment, IV.mentL, oneI, lendV, lendP, lent, lentP, idsV, idsL, lkHS, flat, flatL, clean, cleanL, callArgs, callFn, allLent, IBlk.shape, eqL, numsOnly, Op.operands, reduceIte, reduceCtorEq, cond_true, cond_false, Bool.or_false, Bool.or_true, Bool.and_true, Bool.false_and, Bool.not_true, Bool.not_false, Nat.reduceAdd, Nat.reduceLT, Nat.reduceLeDiff, Nat.reduceEqDiff, Nat.reduceBEq, Nat.add_zero, Nat.zero_add, ne_eq, not_false_eq_true, beq_self_eq_true, true_and, and_true, false_and, and_false, and_self, false_implies, implies_true, forall_const, List.map_cons, List.map_nil, List.nil_append, List.cons_append, List.append_nil, List.all_cons, List.all_nil, Option.map_some, Option.bind_some, List.getElem?_cons_zero, List.getElem?_cons_succ, List.getD_cons_zero, List.getD_cons_succ, List.length_cons, List.length_nil, List.take_succ_cons, List.take_zero, List.take_nil, List.drop_succ_cons, List.drop_zero, List.drop_nil, ex_clo, bft, or_self, Bool.true_eq_false, Bool.false_eq_true, tab3, tab37, tab39, tab57, tab66, hN, pe, Int.toNat_natCast, encQ, lk_impl_tops_impl_Graph_meet, lk_impl_tops_impl_Rat_compare, sp_impl_Graph_meet, sp_impl_Rat_compare, el, g0, hw, e2, okh, hg, ne, hQ, hq1, c1, c2, e4, ox, oh, cmpR_neg, e5]
              repeat refine And.intro (by first | omega | (simp; done) | (simp; omega)) ?_
              exact ⟨(i + 1, lo, hi), id, ⟨by simp only []; omega, d3, dl, hn⟩, by simp only []; omega, by simp [SLe, SLe0, convTm, convHp, convB, conv, conv0, convL, lkT, lkH, clean]⟩
        · have c1 : decide (h.1 < g.1) = true := by simpa using c
          have c2 : decide (g.1 < h.1) = false := by simp only [decide_eq_false_iff_not]; omega
          have dl := s2 (by simp [dirB]; omega)
          have dh : dirB true g h = true := by simpa [dirB] using c
          cases e4 : (lo.2 == 0) with
          | true =>
            have hn := n1 dh (.inl (by simpa using e4))
            simp only [V_seq, V_skip, V_block, V_region, V_cond, brW_true, brW_false, W_nil, W_cons, effOp2, KN_seq, KN_block, KN_back, asB, effOp, effPure, effPick, effNew, effAlloc, effStore, effCall, giveUp, hasAll, skipE, pureV, pickV, storeV, binV, partV, eltV, loadV, faddrV, iaddrV, over, solid, IV.cells, ofC, strip, lkT, lkH, ISt.app, opI, gO, gB, allB, gval, wrapG, dstOK, setD, mentTm, mentHp, IV.ment, IV.mentL, oneI, lendV, lendP, lent, lentP, idsV, idsL, lkHS, flat, flatL, clean, cleanL, callArgs, callFn, allLent, IBlk.shape, eqL, numsOnly, Op.operands, reduceIte, reduceCtorEq, cond_true, cond_false, Bool.or_false, Bool.or_true, Bool.and_true, Bool.and_false, Bool.false_and, Bool.not_true, Bool.not_false, Nat.reduceAdd, Nat.reduceLT, Nat.reduceLeDiff, Nat.reduceEqDiff, Nat.reduceBEq, Nat.add_zero, Nat.zero_add, ne_eq, not_false_eq_true, beq_self_eq_true, true_and, and_true, false_and, and_false, and_self, false_implies, implies_true, forall_const, List.map_cons, List.map_nil, List.nil_append, List.cons_append, List.append_nil, List.all_cons, List.all_nil, Option.map_some, Option.bind_some, List.getElem?_cons_zero, List.getElem?_cons_succ, List.getD_cons_zero, List.getD_cons_succ, List.length_cons, List.length_nil, List.take_succ_cons, List.take_zero, List.take_nil, List.drop_succ_cons, List.drop_zero, List.drop_nil, ex_clo, bft, btf, or_self, Bool.true_eq_false, Bool.false_eq_true, tab3, tab37, tab39, tab57, tab66, hN, pe, Int.toNat_natCast, encQ, lk_impl_tops_impl_Graph_meet, lk_impl_tops_impl_Rat_compare, sp_impl_Graph_meet, sp_impl_Rat_compare, el, g0, hw, e2, okh, hg, ne, hQ, hq1, c1, c2, e4]
            repeat refine And.intro (by first | omega | (simp; done) | (simp; omega)) ?_
            exact ⟨(i + 1, x, hi), id, ⟨by simp only []; omega, d3, hn, dl⟩, by simp only []; omega, by simp [SLe, SLe0, convTm, convHp, convB, conv, conv0, convL, lkT, lkH, clean]⟩
          | false =>
            have h0 : lo.2 ≠ 0 := by simpa using e4
            have oh := o1 h0
            cases e5 : ltR lo x with
            | true =>
              have hn := n1 dh (.inr e5)
              simp only [V_seq, V_skip, V_block, V_region, V_cond, brW_true, brW_false, W_nil, W_cons, effOp2, KN_seq, KN_block, KN_back, asB, effOp, effPure, effPick, effNew, effAlloc, effStore, effCall, giveUp, hasAll, skipE, pureV, pickV, storeV, binV, partV, eltV, loadV, faddrV, iaddrV, over, solid, IV.cells, ofC, strip, lkT, lkH, ISt.app, opI, gO, gB, allB, gval, wrapG, dstOK, setD, mentTm, mentHp, IV.ment, IV.mentL, oneI, lendV, lendP, lent, lentP, idsV, idsL, lkHS, flat, flatL, clean, cleanL, callArgs, callFn, allLent, IBlk.shape, eqL, numsOnly, Op.operands, reduceIte, reduceCtorEq, cond_true, cond_false, Bool.or_false, Bool.or_true, Bool.and_true, Bool.false_and, Bool.not_true, Bool.not_false, Nat.reduceAdd, Nat.reduceLT, Nat.reduceLeDiff, Nat.reduceEqDiff, Nat.reduceBEq, Nat.add_zero, Nat.zero_add, ne_eq, not_false_eq_true, beq_self_eq_true, true_and, and_true, false_and, and_false, and_self, false_implies, implies_true, forall_const, List.map_cons, List.map_nil, List.nil_append, List.cons_append, List.append_nil, List.all_cons, List.all_nil, Option.map_some, Option.bind_some, List.getElem?_cons_zero, List.getElem?_cons_succ, List.getD_cons_zero, List.getD_cons_succ, List.length_cons, List.length_nil, List.take_succ_cons, List.take_zero, List.take_nil, List.drop_succ_cons, List.drop_zero, List.drop_nil, ex_clo, bft, or_self, Bool.true_eq_false, Bool.false_eq_true, tab3, tab37, tab39, tab57, tab66, hN, pe, Int.toNat_natCast, encQ, lk_impl_tops_impl_Graph_meet, lk_impl_tops_impl_Rat_compare, sp_impl_Graph_meet, sp_impl_Rat_compare, el, g0, hw, e2, okh, hg, ne, hQ, hq1, c1, c2, e4, ox, oh, cmpR_pos, e5]
              repeat refine And.intro (by first | omega | (simp; done) | (simp; omega)) ?_
              exact ⟨(i + 1, x, hi), id, ⟨by simp only []; omega, d3, hn, dl⟩, by simp only []; omega, by simp [SLe, SLe0, convTm, convHp, convB, conv, conv0, convL, lkT, lkH, clean]⟩
            | false =>
              have hn := k1 h0 e5
              simp only [V_seq, V_skip, V_block, V_region, V_cond, brW_false, W_nil, W_cons, effOp2, KN_seq, KN_block, KN_back, asB, effOp, effPure, effPick, effNew, effAlloc, effStore, effCall, giveUp, hasAll, skipE, pureV, pickV, storeV, binV, partV, eltV, loadV, faddrV, iaddrV, over, solid, IV.cells, ofC, strip, lkT, lkH, ISt.app, opI, gO, gB, allB, gval, wrapG, dstOK, setD, mentTm, mentHp, IV.ment, IV.mentL, oneI, lendV, lendP, lent, lentP, idsV, idsL, lkHS, flat, flatL, clean, cleanL, callArgs, callFn, allLent, IBlk.shape, eqL, numsOnly, Op.operands, reduceIte, reduceCtorEq, cond_true, cond_false, Bool.or_false, Bool.or_true, Bool.and_true, Bool.false_and, Bool.not_true, Bool.not_false, Nat.reduceAdd, Nat.reduceLT, Nat.reduceLeDiff, Nat.reduceEqDiff, Nat.reduceBEq, Nat.add_zero, Nat.zero_add, ne_eq, not_false_eq_true, beq_self_eq_true, true_and, and_true, false_and, and_false, and_self, false_implies, implies_true, forall_const, List.map_cons, List.map_nil, List.nil_append, List.cons_append, List.append_nil, List.all_cons, List.all_nil, Option.map_some, Option.bind_some, List.getElem?_cons_zero, List.getElem?_cons_succ, List.getD_cons_zero, List.getD_cons_succ, List.length_cons, List.length_nil, List.take_succ_cons, List.take_zero, List.take_nil, List.drop_succ_cons, List.drop_zero, List.drop_nil, ex_clo, bft, or_self, Bool.true_eq_false, Bool.false_eq_true, tab3, tab37, tab39, tab57, tab66, hN, pe, Int.toNat_natCast, encQ, lk_impl_tops_impl_Graph_meet, lk_impl_tops_impl_Rat_compare, sp_impl_Graph_meet, sp_impl_Rat_compare, el, g0, hw, e2, okh, hg, ne, hQ, hq1, c1, c2, e4, ox, oh, cmpR_pos, e5]
              repeat refine And.intro (by first | omega | (simp; done) | (simp; omega)) ?_
              exact ⟨(i + 1, lo, hi), id, ⟨by simp only []; omega, d3, hn, dl⟩, by simp only []; omega, by simp [SLe, SLe0, convTm, convHp, convB, conv, conv0, convL, lkT, lkH, clean]⟩
  · have hie : i = l.length := by simp at h; omega
    subst hie
    have hv := top_fin ig il hb hlo hhi
    have o1 := side_okR ig il (Nat.le_refl _) hlo
    have o2 := side_okR ig il (Nat.le_refl _) hhi
    cases e4 : (lo.2 == 0) with
    | true =>
      rw [e4] at hv
      simp only [V_seq, V_ret, V_exit, V_region, W_nil, W_cons, effOp2, KN_seq, KXr_nil, KXe_nil, KXe_seq, KXe_block, KXe_back, QE, effOp, effPure, effPick, effCall, giveUp, hasAll, pureV, pickV, binV, partV, loadV, faddrV, ofC, strip, lkT, lkH, ISt.app, opI, gO, gB, allB, gval, wrapG, dstOK, setD, lendV, lendP, lent, lentP, idsV, idsL, lkHS, flat, clean, callArgs, callFn, allLent, Gives, Ideal.Fin, conv, conv0, IBlk.shape, Op.operands, reduceIte, cond_true, Bool.or_false, Bool.or_true, Bool.true_or, Bool.not_false, Nat.reduceAdd, Nat.reduceLT, Nat.reduceLeDiff, Nat.reduceEqDiff, Nat.zero_add, true_and, and_true, false_and, and_false, and_self, false_implies, implies_true, List.map_cons, List.map_nil, List.nil_append, List.cons_append, List.append_nil, Option.map_some, Option.bind_some, List.getElem?_cons_zero, List.getElem?_cons_succ, List.getD_cons_zero, List.getD_cons_succ, List.length_cons, List.length_nil, List.take_succ_cons, List.take_nil, List.drop_succ_cons, List.drop_zero, ex_clo, btf, or_self, Bool.true_eq_false, Bool.false_eq_true, tab3, tab37, hN, pe, lk_impl_tops_impl_Rat_compare, sp_impl_Rat_compare, e4, hv]
    | false =>
      have p1 := o1 (by simpa using e4)
      cases e5 : (hi.2 == 0) with
      | true =>
        rw [e4, e5] at hv
        simp only [V_seq, V_ret, V_exit, V_region, W_nil, W_cons, effOp2, KN_seq, KXr_nil, KXe_nil, KXe_seq, KXe_block, KXe_back, QE, effOp, effPure, effPick, effCall, giveUp, hasAll, pureV, pickV, binV, partV, loadV, faddrV, ofC, strip, lkT, lkH, ISt.app, opI, gO, gB, allB, gval, wrapG, dstOK, setD, lendV, lendP, lent, lentP, idsV, idsL, lkHS, flat, clean, callArgs, callFn, allLent, Gives, Ideal.Fin, conv, conv0, IBlk.shape, Op.operands, reduceIte, cond_true, cond_false, Bool.or_false, Bool.or_true, Bool.true_or, Bool.not_false, Nat.reduceAdd, Nat.reduceLT, Nat.reduceLeDiff, Nat.reduceEqDiff, Nat.zero_add, beq_self_eq_true, true_and, and_true, false_and, and_false, and_self, false_implies, implies_true, List.map_cons, List.map_nil, List.nil_append, List.cons_append, List.append_nil, Option.map_some, Option.bind_some, List.getElem?_cons_zero, List.getElem?_cons_succ, List.getD_cons_zero, List.getD_cons_succ, List.length_cons, List.length_nil, List.take_succ_cons, List.take_nil, List.drop_succ_cons, List.drop_zero, ex_clo, btf, or_self, Bool.true_eq_false, Bool.false_eq_true, tab3, tab37, hN, pe, lk_impl_tops_impl_Rat_compare, sp_impl_Rat_compare, e4, e5, hv]
      | false =>
        have p2 := o2 (by simpa using e5)
        rw [e4, e5] at hv
        simp only [V_seq, V_ret, V_exit, V_region, W_nil, W_cons, effOp2, KN_seq, KXr_nil, KXe_nil, KXe_seq, KXe_block, KXe_back, QE, effOp, effPure, effPick, effCall, giveUp, hasAll, pureV, pickV, binV, partV, loadV, faddrV, ofC, strip, lkT, lkH, ISt.app, opI, gO, gB, allB, gval, wrapG, dstOK, setD, lendV, lendP, lent, lentP, idsV, idsL, lkHS, flat, clean, callArgs, callFn, allLent, Gives, Ideal.Fin, conv, conv0, IBlk.shape, Op.operands, reduceIte, cond_true, cond_false, Bool.or_false, Bool.false_or, Bool.not_true, Nat.reduceAdd, Nat.reduceLT, Nat.reduceLeDiff, Nat.reduceEqDiff, Nat.zero_add, beq_self_eq_true, and_false, and_self, implies_true, List.map_cons, List.map_nil, List.nil_append, List.cons_append, List.append_nil, Option.map_some, Option.bind_some, List.getElem?_cons_zero, List.getElem?_cons_succ, List.getD_cons_zero, List.getD_cons_succ, List.length_cons, List.length_nil, List.take_succ_cons, List.take_nil, List.drop_succ_cons, List.drop_zero, ex_clo, or_self, Bool.false_eq_true, tab3, tab37, hN, pe, lk_impl_tops_impl_Rat_compare, sp_impl_Rat_compare, e4, e5, p1, p2, cmpR_neg, hv]
def sp_impl_tops : PSpec := ⟨fun xs => match xs with | [.sl 2 les, .agg [.num .i64 g1, .num .i64 g2]] => isPs les ∧ ((fun (l : List Pt) (g : Pt) => ∀ q ∈ l, okP q = true) (toPs les) (g1, g2)) ∧ ((fun (l : List Pt) (g : Pt) => okP g = true) (toPs les) (g1, g2)) ∧ ((fun (l : List Pt) (g : Pt) => l.length ≤ 1000000) (toPs les) (g1, g2)) | _ => False, fun xs => match xs with | [.sl _ les, .agg [.num _ g1, .num _ g2]] => (fun (l : List Pt) (g : Pt) => .bool (topB l g)) (toPs les) (g1, g2) | _ => .junk, false⟩
theorem gk_impl_tops : ∀ args, sp_impl_tops.pre args → ICall Try.prog 107 args (sp_impl_tops.val args) := by
  intro args h
  unfold sp_impl_tops at h ⊢; simp only at h ⊢; split at h
  · obtain ⟨h0, h1, h2, h3⟩ := h
    obtain ⟨l0, rfl⟩ := isP_ex h0
    simp only [toPs_enc] at *
    exact c_impl_tops _ (_, _) h1 h2 h3
  · exact h.elim
theorem en_impl_tops : Enters Try.prog 107 := enters_of Try.func107 (by kernel_rfl) rfl

end Go.Proofs.Ytjlcbomigbolcaa
