/- Contracts: half-planes: valid, a point in one; quotients in lowest terms; lists joined. -/
import Derived.Test.YtemppebemahkoaaBR
import Derived.Test.YtemppebemahkoaaBU
import Derived.Test.YtemppebemahkoaaPl16
set_option linter.unusedVariables false
set_option linter.unusedSimpArgs false
set_option maxHeartbeats 1600000
set_option maxRecDepth 100000
namespace Go.Proofs.Ytemppebemahkoaa
open Go Go.Ideal Go.Pl Go.Sort

/-- Is a half-plane valid? -/
def okHb (h : Tr) : Bool := inR h.1 (-2000) 2000 && inR h.2.1 (-2000) 2000 && inR h.2.2 (-4000000) 4000000 && (h.1 != 0 || h.2.1 != 0)
def g_impl_HalfPlane_valid : List (Nat × PSpec) := [(92, sp_impl_within)]
theorem gok_impl_HalfPlane_valid : GOK Try.prog g_impl_HalfPlane_valid := gok_cons gk_impl_within en_impl_within (gok0)
theorem lk_impl_HalfPlane_valid_impl_within : lkG g_impl_HalfPlane_valid 92 = sp_impl_within := rfl
def h_impl_HalfPlane_valid : List (Nat × HSpec) := []
theorem hok_impl_HalfPlane_valid : HOK Try.prog h_impl_HalfPlane_valid := hok0
theorem c_impl_HalfPlane_valid (h : Tr)  : ICall Try.prog 98 [encT h] (.bool (okHb h)) := by
  refine icall_V (G := g_impl_HalfPlane_valid) (H := []) [] tabOK mixed gok_impl_HalfPlane_valid hok_impl_HalfPlane_valid Try.func98 rfl Try.ntmps98 Try.results98 rfl (by kernel_rfl) fun F hN hlen => ?_
  have hv : okHb h = (inR h.1 (-2000) 2000 && inR h.2.1 (-2000) 2000 && inR h.2.2 (-4000000) 4000000 && (h.1 != 0 || h.2.1 != 0)) := rfl
  simp only [V_seq, V_ret, V_region, W_nil, W_cons, effOp2, KN_seq, KXr_nil, QE, effOp, effPure, effPick, effNew, effBox, effCall, giveUp, hasAll, skipE, pureV, pickV, binV, partV, loadV, faddrV, solid, IV.cells, ofC, strip, lkT, lkH, ISt.app, opI, gO, gB, allB, gval, wrapG, dstOK, setD, mentTm, mentHp, IV.ment, IV.mentL, oneI, lendV, lendP, lent, lentP, idsV, idsL, lkHS, flat, clean, callArgs, callFn, allLent, enumT, Gives, Ideal.Fin, conv, conv0, IBlk.shape, Op.operands, reduceIte, reduceCtorEq, cond_true, Bool.or_false, Bool.true_or, Bool.and_true, Bool.and_eq_true, Bool.not_true, Nat.reduceAdd, Nat.reduceLT, Nat.reduceLeDiff, Nat.reduceEqDiff, Nat.add_zero, Nat.zero_add, true_and, and_true, and_self, implies_true, forall_const, List.map_cons, List.map_nil, List.nil_append, List.cons_append, List.append_nil, List.all_cons, List.all_nil, Option.map_some, Option.bind_some, List.getElem?_cons_zero, List.getElem?_cons_succ, List.getD_cons_zero, List.getD_cons_succ, List.length_cons, List.length_nil, List.take_succ_cons, List.take_zero, List.take_nil, List.drop_succ_cons, List.drop_zero, ex_clo, or_self, tab3, tab98, hN, encT, lk_impl_HalfPlane_valid_impl_within, sp_impl_within, hv]
  cases inR h.1 (-2000) 2000 <;> cases inR h.2.1 (-2000) 2000 <;> cases inR h.2.2 (-4000000) 4000000 <;> cases (h.1 != 0) <;> simp
def sp_impl_HalfPlane_valid : PSpec := ⟨fun xs => match xs with | [.agg [.num .i64 h1, .num .i64 h2, .num .i64 h3]] => True | _ => False, fun xs => match xs with | [.agg [.num _ h1, .num _ h2, .num _ h3]] => (fun (h : Tr) => .bool (okHb h)) (h1, h2, h3) | _ => .junk, false⟩
theorem gk_impl_HalfPlane_valid : ∀ args, sp_impl_HalfPlane_valid.pre args → ICall Try.prog 98 args (sp_impl_HalfPlane_valid.val args) := by
  intro args h
  unfold sp_impl_HalfPlane_valid at h ⊢; simp only at h ⊢; split at h
  · exact c_impl_HalfPlane_valid (_, _, _)
  · exact h.elim
theorem en_impl_HalfPlane_valid : Enters Try.prog 98 := enters_of Try.func98 (by kernel_rfl) rfl

def g_spec_validHalf : List (Nat × PSpec) := [(93, sp_spec_inRange)]
theorem gok_spec_validHalf : GOK Try.prog g_spec_validHalf := gok_cons gk_spec_inRange en_spec_inRange (gok0)
theorem lk_spec_validHalf_spec_inRange : lkG g_spec_validHalf 93 = sp_spec_inRange := rfl
def h_spec_validHalf : List (Nat × HSpec) := []
theorem hok_spec_validHalf : HOK Try.prog h_spec_validHalf := hok0
theorem c_spec_validHalf (h : Tr)  : ICall Try.prog 154 [encT h] (.bool (okHb h)) := by
  refine icall_V (G := g_spec_validHalf) (H := []) [] tabOK mixed gok_spec_validHalf hok_spec_validHalf Try.func154 rfl Try.ntmps154 Try.results154 rfl (by kernel_rfl) fun F hN hlen => ?_
  have hv : okHb h = (inR h.1 (-2000) 2000 && inR h.2.1 (-2000) 2000 && inR h.2.2 (-4000000) 4000000 && (h.1 != 0 || h.2.1 != 0)) := rfl
  simp only [V_seq, V_ret, V_region, W_nil, W_cons, effOp2, KN_seq, KXr_nil, QE, effOp, effPure, effPick, effNew, effBox, effCall, giveUp, hasAll, skipE, pureV, pickV, binV, partV, loadV, faddrV, solid, IV.cells, ofC, strip, lkT, lkH, ISt.app, opI, gO, gB, allB, gval, wrapG, dstOK, setD, mentTm, mentHp, IV.ment, IV.mentL, oneI, lendV, lendP, lent, lentP, idsV, idsL, lkHS, flat, clean, callArgs, callFn, allLent, enumT, Gives, Ideal.Fin, conv, conv0, IBlk.shape, Op.operands, reduceIte, reduceCtorEq, cond_true, Bool.or_false, Bool.true_or, Bool.and_true, Bool.and_eq_true, Bool.not_true, Nat.reduceAdd, Nat.reduceLT, Nat.reduceLeDiff, Nat.reduceEqDiff, Nat.add_zero, Nat.zero_add, true_and, and_true, and_self, implies_true, forall_const, List.map_cons, List.map_nil, List.nil_append, List.cons_append, List.append_nil, List.all_cons, List.all_nil, Option.map_some, Option.bind_some, List.getElem?_cons_zero, List.getElem?_cons_succ, List.getD_cons_zero, List.getD_cons_succ, List.length_cons, List.length_nil, List.take_succ_cons, List.take_zero, List.take_nil, List.drop_succ_cons, List.drop_zero, ex_clo, or_self, tab3, tab98, hN, encT, lk_spec_validHalf_spec_inRange, sp_spec_inRange, hv]
  cases inR h.1 (-2000) 2000 <;> cases inR h.2.1 (-2000) 2000 <;> cases inR h.2.2 (-4000000) 4000000 <;> cases (h.1 != 0) <;> simp
def sp_spec_validHalf : PSpec := ⟨fun xs => match xs with | [.agg [.num .i64 h1, .num .i64 h2, .num .i64 h3]] => True | _ => False, fun xs => match xs with | [.agg [.num _ h1, .num _ h2, .num _ h3]] => (fun (h : Tr) => .bool (okHb h)) (h1, h2, h3) | _ => .junk, false⟩
theorem gk_spec_validHalf : ∀ args, sp_spec_validHalf.pre args → ICall Try.prog 154 args (sp_spec_validHalf.val args) := by
  intro args h
  unfold sp_spec_validHalf at h ⊢; simp only at h ⊢; split at h
  · exact c_spec_validHalf (_, _, _)
  · exact h.elim
theorem en_spec_validHalf : Enters Try.prog 154 := enters_of Try.func154 (by kernel_rfl) rfl

def okHs (l : List Tr) : Bool := l.all okHb && decide (l.length ≤ 8)
theorem okHb_sm {h : Tr} (e : okHb h = true) : smH h := by
  simp only [okHb, inR, Bool.and_eq_true, decide_eq_true_eq] at e
  exact ⟨e.1.1.1, e.1.1.2, e.1.2⟩
def g_spec_validHalves : List (Nat × PSpec) := [(154, sp_spec_validHalf)]
theorem gok_spec_validHalves : GOK Try.prog g_spec_validHalves := gok_cons gk_spec_validHalf en_spec_validHalf (gok0)
theorem lk_spec_validHalves_spec_validHalf : lkG g_spec_validHalves 154 = sp_spec_validHalf := rfl
def h_spec_validHalves : List (Nat × HSpec) := []
theorem hok_spec_validHalves : HOK Try.prog h_spec_validHalves := hok0
theorem c_spec_validHalves (l : List Tr)  : ICall Try.prog 80 [.sl 3 (encTs l)] (.bool (okHs l)) := by
  refine icall_V (G := g_spec_validHalves) (H := []) [] tabOK mixed gok_spec_validHalves hok_spec_validHalves Try.func80 rfl Try.ntmps80 Try.results80 rfl (by kernel_rfl) fun F hN hlen => ?_
  have hl := hlen 0 3 _ rfl
  have el := len_encTs l
  rw [el] at hl
  simp only [V_seq, V_block, V_region, W_nil, W_cons, effOp2, KN_seq, effOp, effPure, pureV, ofC, strip, ISt.app, opI, gO, gB, allB, gval, wrapG, dstOK, setD, enumT, Op.operands, Nat.reduceLT, true_and, and_self, implies_true, List.nil_append, List.cons_append, List.append_nil, hN]
  refine V_loop (α := Nat) ⟨tabOK, mixed, gok_spec_validHalves, hok_spec_validHalves⟩ (by kernel_rfl) (fun i => i ≤ l.length ∧ l.all okHb = (l.drop i).all okHb) (fun i => ⟨[(3, .num .i64 i), (0, .sl 3 (encTs l))], []⟩) (fun i => l.length - i) 0 id (by simp) (by simp [SLe, SLe0, convTm, convHp, conv, conv0, lkT, lkH, clean]) ?_
  rintro i ⟨hi, hj⟩
  simp only [V_seq, V_region, V_cond, W_nil, W_cons, effOp2, KN_seq, asB, effOp, effPure, pureV, binV, lenV, strip, lkT, ISt.app, opI, gO, gB, allB, gval, wrapG, dstOK, setD, Op.operands, Call.operands, List.append_toArray, reduceIte, reduceCtorEq, Nat.reduceLT, Nat.reduceEqDiff, ne_eq, not_false_eq_true, true_and, and_self, implies_true, List.nil_append, List.cons_append, List.append_nil, tab43, hN, el]
  refine brW_some (fun h => ?_) (fun h => ?_)
  · have hi' : i < l.length := by simpa using h
    have g1 := getD_encTs hi'
    have hw := wr_succ hi' hl
    have hst := all_step (p := okHb) (d := (0, 0, 0)) hi'
    simp only [V_seq, V_skip, V_block, V_region, V_cond, W_nil, W_cons, effOp2, KN_seq, asB, effOp, effPure, effCall, giveUp, hasAll, pureV, partV, eltV, loadV, iaddrV, strip, lkT, lkH, ISt.app, opI, gO, gB, allB, gval, wrapG, dstOK, setD, lendV, lendP, lent, lentP, idsV, idsL, lkHS, flat, clean, callArgs, callFn, allLent, Op.operands, reduceIte, reduceCtorEq, cond_true, Bool.or_false, Bool.not_true, Nat.reduceAdd, Nat.reduceLT, Nat.reduceLeDiff, Nat.reduceEqDiff, Nat.zero_add, ne_eq, not_false_eq_true, true_and, and_true, and_false, and_self, implies_true, forall_const, List.map_cons, List.map_nil, List.nil_append, List.cons_append, List.append_nil, List.getD_cons_zero, List.length_cons, List.length_nil, List.take_succ_cons, List.take_nil, List.drop_zero, ex_clo, or_self, tab43, tab98, hN, pe, Int.toNat_natCast, lk_spec_validHalves_spec_validHalf, sp_spec_validHalf, el, Int.toNat_natCast, g1]
    repeat refine And.intro (by omega) ?_
    refine brW_some (fun h => ?_) (fun h => ?_)
    · simp only [V_seq, V_ret, V_region, W_nil, W_cons, effOp2, KN_seq, KXr_nil, KXr_seq, KXr_block, KXr_back, QE, effOp, effPure, pureV, ofC, strip, lkT, lkH, ISt.app, opI, gO, gB, allB, gval, wrapG, dstOK, setD, clean, Gives, Ideal.Fin, conv, conv0, Op.operands, reduceIte, reduceCtorEq, Nat.reduceLT, Nat.reduceEqDiff, true_and, and_true, and_self, implies_true, List.nil_append, List.cons_append, List.append_nil, hN]
      have hq : okHb (tAt l i) = false := by simpa using h
      have : l.all okHb = false := by rw [hj, hst, hq]; rfl
      simp only [okHs, this, Bool.false_and]
    · simp only [V_skip, V_region, W_nil, W_cons, effOp2, KN_seq, KN_block, KN_back, effOp, effPure, pureV, binV, ofC, strip, lkT, ISt.app, opI, gO, gB, allB, gval, wrapG, dstOK, setD, Op.operands, reduceIte, reduceCtorEq, Nat.reduceLT, Nat.reduceEqDiff, true_and, and_self, implies_true, List.nil_append, List.cons_append, List.append_nil, hN, hw]
      have hq : okHb (tAt l i) = true := by simpa using h
      exact ⟨i + 1, id, ⟨by omega, by rw [hj, hst, hq]; rfl⟩, by simp only []; omega, by simp [SLe, SLe0, convTm, convHp, conv, conv0, lkT, lkH, clean]⟩
  · simp only [V_seq, V_ret, V_exit, V_region, W_nil, W_cons, effOp2, KN_seq, KXr_nil, KXe_nil, KXe_seq, KXe_block, KXe_back, QE, effOp, effPure, pureV, binV, lenV, ofC, strip, lkT, lkH, ISt.app, opI, gO, gB, allB, gval, wrapG, dstOK, setD, clean, Gives, Ideal.Fin, conv, conv0, Op.operands, Call.operands, List.append_toArray, reduceIte, reduceCtorEq, Nat.reduceLT, Nat.reduceEqDiff, ne_eq, not_false_eq_true, true_and, and_true, and_self, implies_true, List.nil_append, List.cons_append, List.append_nil, tab43, hN, el]
    have hie : i = l.length := by simp at h; omega
    subst hie
    have : l.all okHb = true := by rw [hj]; simp
    simp only [okHs, this, Bool.true_and]
    simp
    omega
def sp_spec_validHalves : PSpec := ⟨fun xs => match xs with | [.sl 3 les] => isTs les | _ => False, fun xs => match xs with | [.sl _ les] => (fun (l : List Tr) => .bool (okHs l)) (toTs les) | _ => .junk, false⟩
theorem gk_spec_validHalves : ∀ args, sp_spec_validHalves.pre args → ICall Try.prog 80 args (sp_spec_validHalves.val args) := by
  intro args h
  unfold sp_spec_validHalves at h ⊢; simp only at h ⊢; split at h
  · have h0 := h
    obtain ⟨l0, rfl⟩ := isT_ex h0
    simp only [toTs_enc] at *
    exact c_spec_validHalves _ 
  · exact h.elim
theorem en_spec_validHalves : Enters Try.prog 80 := enters_of Try.func80 (by kernel_rfl) rfl

def g_impl_ValidHalves_1 : List (Nat × PSpec) := [(98, sp_impl_HalfPlane_valid)]
theorem gok_impl_ValidHalves_1 : GOK Try.prog g_impl_ValidHalves_1 := gok_cons gk_impl_HalfPlane_valid en_impl_HalfPlane_valid (gok0)
theorem lk_impl_ValidHalves_1_impl_HalfPlane_valid : lkG g_impl_ValidHalves_1 98 = sp_impl_HalfPlane_valid := rfl
def h_impl_ValidHalves_1 : List (Nat × HSpec) := []
theorem hok_impl_ValidHalves_1 : HOK Try.prog h_impl_ValidHalves_1 := hok0
theorem c_impl_ValidHalves_1 (h : Tr)  : ICall Try.prog 97 [encT h] (.bool (!okHb h)) := by
  refine icall_V (G := g_impl_ValidHalves_1) (H := []) [] tabOK mixed gok_impl_ValidHalves_1 hok_impl_ValidHalves_1 Try.func97 rfl Try.ntmps97 Try.results97 rfl (by kernel_rfl) fun F hN hlen => ?_
  simp only [V_seq, V_ret, V_region, W_nil, W_cons, effOp2, KN_seq, KXr_nil, QE, effOp, effPure, effNew, effBox, effCall, giveUp, hasAll, skipE, pureV, partV, loadV, solid, IV.cells, ofC, strip, lkT, lkH, ISt.app, opI, gO, gB, allB, gval, wrapG, dstOK, setD, mentTm, mentHp, IV.ment, IV.mentL, oneI, lendV, lendP, lent, lentP, idsV, idsL, lkHS, flat, clean, callArgs, callFn, allLent, enumT, Gives, Ideal.Fin, conv, conv0, Op.operands, reduceIte, reduceCtorEq, cond_true, Bool.or_false, Bool.and_true, Bool.not_true, Nat.reduceAdd, Nat.reduceLT, Nat.reduceLeDiff, Nat.reduceEqDiff, Nat.zero_add, and_false, and_self, implies_true, List.map_cons, List.map_nil, List.nil_append, List.cons_append, List.append_nil, List.all_cons, List.all_nil, List.getD_cons_zero, List.length_cons, List.length_nil, List.take_succ_cons, List.take_nil, List.drop_zero, ex_clo, or_self, tab98, hN, pe, encT, lk_impl_ValidHalves_1_impl_HalfPlane_valid, sp_impl_HalfPlane_valid]
def sp_impl_ValidHalves_1 : PSpec := ⟨fun xs => match xs with | [.agg [.num .i64 h1, .num .i64 h2, .num .i64 h3]] => True | _ => False, fun xs => match xs with | [.agg [.num _ h1, .num _ h2, .num _ h3]] => (fun (h : Tr) => .bool (!okHb h)) (h1, h2, h3) | _ => .junk, false⟩
theorem gk_impl_ValidHalves_1 : ∀ args, sp_impl_ValidHalves_1.pre args → ICall Try.prog 97 args (sp_impl_ValidHalves_1.val args) := by
  intro args h
  unfold sp_impl_ValidHalves_1 at h ⊢; simp only at h ⊢; split at h
  · exact c_impl_ValidHalves_1 (_, _, _)
  · exact h.elim
theorem en_impl_ValidHalves_1 : Enters Try.prog 97 := enters_of Try.func97 (by kernel_rfl) rfl

def g_slices_IndexFunc_impl_HalfPlane_impl_HalfPlane_valid_1 : List (Nat × PSpec) := [(97, sp_impl_ValidHalves_1)]
theorem gok_slices_IndexFunc_impl_HalfPlane_impl_HalfPlane_valid_1 : GOK Try.prog g_slices_IndexFunc_impl_HalfPlane_impl_HalfPlane_valid_1 := gok_cons gk_impl_ValidHalves_1 en_impl_ValidHalves_1 (gok0)
theorem lk_slices_IndexFunc_impl_HalfPlane_impl_HalfPlane_valid_1_impl_ValidHalves_1 : lkG g_slices_IndexFunc_impl_HalfPlane_impl_HalfPlane_valid_1 97 = sp_impl_ValidHalves_1 := rfl
def h_slices_IndexFunc_impl_HalfPlane_impl_HalfPlane_valid_1 : List (Nat × HSpec) := []
theorem hok_slices_IndexFunc_impl_HalfPlane_impl_HalfPlane_valid_1 : HOK Try.prog h_slices_IndexFunc_impl_HalfPlane_impl_HalfPlane_valid_1 := hok0
theorem c_slices_IndexFunc_impl_HalfPlane_impl_HalfPlane_valid_1 (l : List Tr)  : ICall Try.prog 167 [.sl 3 (encTs l), .clo 97 []] (.num .i64 (idxF (fun p => !okHb p) l 0)) := by
  refine icall_V (G := g_slices_IndexFunc_impl_HalfPlane_impl_HalfPlane_valid_1) (H := []) [] tabOK mixed gok_slices_IndexFunc_impl_HalfPlane_impl_HalfPlane_valid_1 hok_slices_IndexFunc_impl_HalfPlane_impl_HalfPlane_valid_1 Try.func167 rfl Try.ntmps167 Try.results167 rfl (by kernel_rfl) fun F hN hlen => ?_
  have hl := hlen 0 3 _ rfl
  have el := len_encTs l
  rw [el] at hl
  simp only [V_seq, V_block, V_region, W_nil, W_cons, effOp2, KN_seq, effOp, effPure, pureV, lenV, ofC, strip, lkT, ISt.app, opI, gO, gB, allB, gval, wrapG, dstOK, setD, enumT, Op.operands, Call.operands, List.append_toArray, reduceIte, reduceCtorEq, Nat.reduceLT, Nat.reduceEqDiff, Nat.zero_add, ne_eq, not_false_eq_true, true_and, and_self, implies_true, List.nil_append, List.cons_append, List.append_nil, tab43, hN, el]
  refine V_loop (α := Nat) ⟨tabOK, mixed, gok_slices_IndexFunc_impl_HalfPlane_impl_HalfPlane_valid_1, hok_slices_IndexFunc_impl_HalfPlane_impl_HalfPlane_valid_1⟩ (by kernel_rfl) (fun i => i ≤ l.length ∧ idxF (fun p => !okHb p) l 0 = idxF (fun p => !okHb p) (l.drop i) i)
    (fun i => ⟨[(8, .num .i64 i), (7, .num .i64 l.length), (0, .sl 3 (encTs l)), (1, .clo 97 [])], []⟩) (fun i => l.length - i) 0 id (by simp) (by simp [SLe, SLe0, convTm, convHp, conv, conv0, convL, lkT, lkH, clean]) ?_
  rintro i ⟨hi, hj⟩
  simp only [V_seq, V_region, V_cond, W_nil, W_cons, effOp2, KN_seq, asB, effOp, effPure, pureV, binV, strip, lkT, ISt.app, opI, gO, gB, allB, gval, wrapG, dstOK, setD, Op.operands, reduceIte, reduceCtorEq, Nat.reduceLT, Nat.reduceEqDiff, true_and, and_self, implies_true, List.nil_append, List.cons_append, List.append_nil, hN]
  refine brW_some (fun h => ?_) (fun h => ?_)
  · have hi' : i < l.length := by simpa using h
    have g1 := getD_encTs hi'
    have hw := wr_succ hi' hl
    have hst := idxF_step (p := fun p => !okHb p) (d := (0, 0, 0)) hi'
    simp only [V_seq, V_skip, V_block, V_region, V_cond, W_nil, W_cons, effOp2, KN_seq, asB, effOp, effPure, effCall, giveUp, hasAll, pureV, partV, eltV, loadV, iaddrV, strip, lkT, lkH, ISt.app, opI, gO, gB, allB, gval, wrapG, dstOK, setD, lendV, lendP, lent, lentP, idsV, idsL, lkHS, flat, clean, callArgs, callFn, allLent, Op.operands, reduceIte, reduceCtorEq, cond_true, Bool.or_false, Bool.not_true, Nat.reduceAdd, Nat.reduceLT, Nat.reduceLeDiff, Nat.reduceEqDiff, Nat.zero_add, ne_eq, not_false_eq_true, true_and, and_true, and_false, and_self, implies_true, forall_const, List.map_cons, List.map_nil, List.nil_append, List.cons_append, List.append_nil, List.getD_cons_zero, List.length_cons, List.length_nil, List.take_succ_cons, List.take_nil, List.drop_zero, ex_clo, or_self, tab43, tab98, hN, pe, Int.toNat_natCast, lk_slices_IndexFunc_impl_HalfPlane_impl_HalfPlane_valid_1_impl_ValidHalves_1, sp_impl_ValidHalves_1, el, Int.toNat_natCast, g1]
    
    repeat refine And.intro (by omega) ?_
    refine brW_some (fun h => ?_) (fun h => ?_)
    · simp only [V_seq, V_ret, V_region, W_nil, W_cons, effOp2, KN_seq, KXr_nil, KXr_seq, KXr_block, KXr_back, QE, effOp, effPure, pureV, strip, lkT, lkH, ISt.app, opI, gO, gB, allB, gval, wrapG, dstOK, setD, clean, Gives, Ideal.Fin, conv, conv0, Op.operands, reduceIte, reduceCtorEq, Nat.reduceLT, Nat.reduceEqDiff, true_and, and_true, and_self, implies_true, List.nil_append, List.cons_append, List.append_nil, hN]
      have hq : (fun p => !okHb p) (tAt l i) = true := by simpa using h
      rw [hj, hst]
      exact congrArg _ (if_pos hq).symm
    · simp only [V_skip, V_region, W_nil, W_cons, effOp2, KN_seq, KN_block, KN_back, effOp, effPure, pureV, binV, ofC, strip, lkT, ISt.app, opI, gO, gB, allB, gval, wrapG, dstOK, setD, Op.operands, reduceIte, reduceCtorEq, Nat.reduceLT, Nat.reduceEqDiff, true_and, and_self, implies_true, List.nil_append, List.cons_append, List.append_nil, hN, hw]
      have hq : (fun p => !okHb p) (tAt l i) = false := by simpa using h
      exact ⟨i + 1, id, ⟨by omega, hj.trans (hst.trans (if_neg (ne_true_of_eq_false hq)))⟩, by simp only []; omega, by simp [SLe, SLe0, convTm, convHp, conv, conv0, convL, lkT, lkH, clean]⟩
  · simp only [V_seq, V_ret, V_exit, V_region, W_nil, W_cons, effOp2, KN_seq, KXr_nil, KXe_nil, KXe_seq, KXe_block, KXe_back, QE, effOp, effPure, pureV, ofC, strip, lkT, lkH, ISt.app, opI, gO, gB, allB, gval, wrapG, dstOK, setD, clean, Gives, Ideal.Fin, conv, conv0, Op.operands, reduceIte, reduceCtorEq, Nat.reduceLT, Nat.reduceEqDiff, true_and, and_true, and_self, implies_true, List.nil_append, List.cons_append, List.append_nil, hN]
    have hie : i = l.length := by simp at h; omega
    subst hie
    rw [hj]
    simp [idxF]
def sp_slices_IndexFunc_impl_HalfPlane_impl_HalfPlane_valid_1 : PSpec := ⟨fun xs => match xs with | [.sl 3 les, .clo 97 []] => isTs les | _ => False, fun xs => match xs with | [.sl _ les, .clo 97 []] => (fun (l : List Tr) => .num .i64 (idxF (fun p => !okHb p) l 0)) (toTs les) | _ => .junk, false⟩
theorem gk_slices_IndexFunc_impl_HalfPlane_impl_HalfPlane_valid_1 : ∀ args, sp_slices_IndexFunc_impl_HalfPlane_impl_HalfPlane_valid_1.pre args → ICall Try.prog 167 args (sp_slices_IndexFunc_impl_HalfPlane_impl_HalfPlane_valid_1.val args) := by
  intro args h
  unfold sp_slices_IndexFunc_impl_HalfPlane_impl_HalfPlane_valid_1 at h ⊢; simp only at h ⊢; split at h
  · have h0 := h
    obtain ⟨l0, rfl⟩ := isT_ex h0
    simp only [toTs_enc] at *
    exact c_slices_IndexFunc_impl_HalfPlane_impl_HalfPlane_valid_1 _ 
  · exact h.elim
theorem en_slices_IndexFunc_impl_HalfPlane_impl_HalfPlane_valid_1 : Enters Try.prog 167 := enters_of Try.func167 (by kernel_rfl) rfl

def g_slices_ContainsFunc_impl_HalfPlane_impl_HalfPlane_valid_1 : List (Nat × PSpec) := [(167, sp_slices_IndexFunc_impl_HalfPlane_impl_HalfPlane_valid_1)]
theorem gok_slices_ContainsFunc_impl_HalfPlane_impl_HalfPlane_valid_1 : GOK Try.prog g_slices_ContainsFunc_impl_HalfPlane_impl_HalfPlane_valid_1 := gok_cons gk_slices_IndexFunc_impl_HalfPlane_impl_HalfPlane_valid_1 en_slices_IndexFunc_impl_HalfPlane_impl_HalfPlane_valid_1 (gok0)
theorem lk_slices_ContainsFunc_impl_HalfPlane_impl_HalfPlane_valid_1_slices_IndexFunc_impl_HalfPlane_impl_HalfPlane_valid_1 : lkG g_slices_ContainsFunc_impl_HalfPlane_impl_HalfPlane_valid_1 167 = sp_slices_IndexFunc_impl_HalfPlane_impl_HalfPlane_valid_1 := rfl
def h_slices_ContainsFunc_impl_HalfPlane_impl_HalfPlane_valid_1 : List (Nat × HSpec) := []
theorem hok_slices_ContainsFunc_impl_HalfPlane_impl_HalfPlane_valid_1 : HOK Try.prog h_slices_ContainsFunc_impl_HalfPlane_impl_HalfPlane_valid_1 := hok0
theorem c_slices_ContainsFunc_impl_HalfPlane_impl_HalfPlane_valid_1 (l : List Tr)  : ICall Try.prog 96 [.sl 3 (encTs l), .clo 97 []] (.bool (l.any (fun p => !okHb p))) := by
  refine icall_V (G := g_slices_ContainsFunc_impl_HalfPlane_impl_HalfPlane_valid_1) (H := []) [] tabOK mixed gok_slices_ContainsFunc_impl_HalfPlane_impl_HalfPlane_valid_1 hok_slices_ContainsFunc_impl_HalfPlane_impl_HalfPlane_valid_1 Try.func96 rfl Try.ntmps96 Try.results96 rfl (by kernel_rfl) fun F hN hlen => ?_
  simp only [V_seq, V_ret, V_region, W_nil, W_cons, effOp2, KN_seq, KXr_nil, QE, effOp, effPure, effCall, giveUp, hasAll, pureV, binV, ofC, strip, lkT, lkH, ISt.app, opI, gO, gB, allB, gval, wrapG, dstOK, setD, lendV, lendP, lent, lentP, lentPs, idsV, idsL, lkHS, flat, clean, callArgs, callFn, allLent, enumT, Gives, Ideal.Fin, conv, conv0, Op.operands, reduceIte, reduceCtorEq, cond_true, Bool.or_false, Bool.not_true, Nat.reduceLT, Nat.reduceEqDiff, Nat.zero_add, and_self, implies_true, List.map_cons, List.map_nil, List.nil_append, List.cons_append, List.append_nil, ex_clo, or_self, hN, isTs_enc, toTs_enc, lk_slices_ContainsFunc_impl_HalfPlane_impl_HalfPlane_valid_1_slices_IndexFunc_impl_HalfPlane_impl_HalfPlane_valid_1, sp_slices_IndexFunc_impl_HalfPlane_impl_HalfPlane_valid_1, idxF_sign]
  
def sp_slices_ContainsFunc_impl_HalfPlane_impl_HalfPlane_valid_1 : PSpec := ⟨fun xs => match xs with | [.sl 3 les, .clo 97 []] => isTs les | _ => False, fun xs => match xs with | [.sl _ les, .clo 97 []] => (fun (l : List Tr) => .bool (l.any (fun p => !okHb p))) (toTs les) | _ => .junk, false⟩
theorem gk_slices_ContainsFunc_impl_HalfPlane_impl_HalfPlane_valid_1 : ∀ args, sp_slices_ContainsFunc_impl_HalfPlane_impl_HalfPlane_valid_1.pre args → ICall Try.prog 96 args (sp_slices_ContainsFunc_impl_HalfPlane_impl_HalfPlane_valid_1.val args) := by
  intro args h
  unfold sp_slices_ContainsFunc_impl_HalfPlane_impl_HalfPlane_valid_1 at h ⊢; simp only at h ⊢; split at h
  · have h0 := h
    obtain ⟨l0, rfl⟩ := isT_ex h0
    simp only [toTs_enc] at *
    exact c_slices_ContainsFunc_impl_HalfPlane_impl_HalfPlane_valid_1 _ 
  · exact h.elim
theorem en_slices_ContainsFunc_impl_HalfPlane_impl_HalfPlane_valid_1 : Enters Try.prog 96 := enters_of Try.func96 (by kernel_rfl) rfl

def g_impl_ValidHalves : List (Nat × PSpec) := [(96, sp_slices_ContainsFunc_impl_HalfPlane_impl_HalfPlane_valid_1)]
theorem gok_impl_ValidHalves : GOK Try.prog g_impl_ValidHalves := gok_cons gk_slices_ContainsFunc_impl_HalfPlane_impl_HalfPlane_valid_1 en_slices_ContainsFunc_impl_HalfPlane_impl_HalfPlane_valid_1 (gok0)
theorem lk_impl_ValidHalves_slices_ContainsFunc_impl_HalfPlane_impl_HalfPlane_valid_1 : lkG g_impl_ValidHalves 96 = sp_slices_ContainsFunc_impl_HalfPlane_impl_HalfPlane_valid_1 := rfl
def h_impl_ValidHalves : List (Nat × HSpec) := []
theorem hok_impl_ValidHalves : HOK Try.prog h_impl_ValidHalves := hok0
theorem c_impl_ValidHalves (l : List Tr)  : ICall Try.prog 38 [.sl 3 (encTs l)] (.bool (okHs l)) := by
  refine icall_V (G := g_impl_ValidHalves) (H := []) [] tabOK mixed gok_impl_ValidHalves hok_impl_ValidHalves Try.func38 rfl Try.ntmps38 Try.results38 rfl (by kernel_rfl) fun F hN hlen => ?_
  have hd : decide ((l.length : Int) ≤ 8) = decide (l.length ≤ 8) := by simp; omega
  have hv : okHs l = (decide (l.length ≤ 8) && !(l.any fun p => !okHb p)) := by rw [okHs, List.all_eq_not_any_not, Bool.and_comm]
  simp only [V_seq, V_ret, V_region, W_nil, W_cons, effOp2, KN_seq, KXr_nil, QE, effOp, effPure, effPick, effCall, giveUp, hasAll, pureV, pickV, binV, lenV, ofC, strip, lkT, lkH, ISt.app, opI, gO, gB, allB, gval, wrapG, dstOK, setD, lendV, lendP, lent, lentP, lentPs, idsV, idsL, lkHS, flat, clean, callArgs, callFn, allLent, enumT, Gives, Ideal.Fin, conv, conv0, Op.operands, Call.operands, List.append_toArray, reduceIte, reduceCtorEq, cond_true, Bool.or_false, Bool.true_or, Nat.reduceLT, Nat.reduceEqDiff, ne_eq, not_false_eq_true, true_and, and_true, and_self, implies_true, forall_const, List.map_cons, List.map_nil, List.nil_append, List.cons_append, List.append_nil, Option.bind_some, List.getElem?_cons_zero, List.getElem?_cons_succ, ex_clo, or_self, tab43, hN, isTs_enc, toTs_enc, lk_impl_ValidHalves_slices_ContainsFunc_impl_HalfPlane_impl_HalfPlane_valid_1, sp_slices_ContainsFunc_impl_HalfPlane_impl_HalfPlane_valid_1, len_encTs, hd, hv]
  cases decide (l.length ≤ 8) <;> simp
def sp_impl_ValidHalves : PSpec := ⟨fun xs => match xs with | [.sl 3 les] => isTs les | _ => False, fun xs => match xs with | [.sl _ les] => (fun (l : List Tr) => .bool (okHs l)) (toTs les) | _ => .junk, false⟩
theorem gk_impl_ValidHalves : ∀ args, sp_impl_ValidHalves.pre args → ICall Try.prog 38 args (sp_impl_ValidHalves.val args) := by
  intro args h
  unfold sp_impl_ValidHalves at h ⊢; simp only at h ⊢; split at h
  · have h0 := h
    obtain ⟨l0, rfl⟩ := isT_ex h0
    simp only [toTs_enc] at *
    exact c_impl_ValidHalves _ 
  · exact h.elim
theorem en_impl_ValidHalves : Enters Try.prog 38 := enters_of Try.func38 (by kernel_rfl) rfl


theorem has_wr {k : Tr} {x y d : Int} (hk : smH k) (hx : -20000000000 ≤ x ∧ x ≤ 20000000000) (hy : -20000000000 ≤ y ∧ y ≤ 20000000000) (hd : -20000000 ≤ d ∧ d ≤ 20000000) :
    IntKind.i64.wrap (k.1 * x) = k.1 * x ∧ IntKind.i64.wrap (k.2.1 * y) = k.2.1 * y ∧ IntKind.i64.wrap (k.1 * x + k.2.1 * y) = k.1 * x + k.2.1 * y ∧ IntKind.i64.wrap (k.2.2 * d) = k.2.2 * d := by
  have m1 := mulB hk.1 hx
  have m2 := mulB hk.2.1 hy
  have m3 := mulB hk.2.2 hd
  exact ⟨wr (by omega) (by omega), wr (by omega) (by omega), wr (by omega) (by omega), wr (by omega) (by omega)⟩
def g_impl_HalfPlane_has : List (Nat × PSpec) := []
theorem gok_impl_HalfPlane_has : GOK Try.prog g_impl_HalfPlane_has := gok0
def h_impl_HalfPlane_has : List (Nat × HSpec) := []
theorem hok_impl_HalfPlane_has : HOK Try.prog h_impl_HalfPlane_has := hok0
theorem c_impl_HalfPlane_has (k : Tr) (x : Int) (y : Int) (d : Int) (hk : smH k) (hx : -20000000000 ≤ x ∧ x ≤ 20000000000) (hy : -20000000000 ≤ y ∧ y ≤ 20000000000) (hd : -20000000 ≤ d ∧ d ≤ 20000000) : ICall Try.prog 164 [encT k, .num .i64 x, .num .i64 y, .num .i64 d] (.bool (hasH x y d k)) := by
  refine icall_V (G := g_impl_HalfPlane_has) (H := []) [] tabOK mixed gok_impl_HalfPlane_has hok_impl_HalfPlane_has Try.func164 rfl Try.ntmps164 Try.results164 rfl (by kernel_rfl) fun F hN hlen => ?_
  obtain ⟨w1, w2, w3, w4⟩ := has_wr hk hx hy hd
  have hv : hasH x y d k = decide (k.1 * x + k.2.1 * y ≤ k.2.2 * d) := rfl
  simp only [V_seq, V_ret, V_region, W_nil, W_cons, effOp2, KN_seq, KXr_nil, QE, effOp, effPure, effNew, effBox, skipE, pureV, binV, partV, loadV, faddrV, solid, IV.cells, ofC, strip, lkT, lkH, ISt.app, opI, gO, gB, allB, gval, wrapG, dstOK, setD, mentTm, mentHp, IV.ment, IV.mentL, oneI, clean, enumT, Gives, Ideal.Fin, conv, conv0, IBlk.shape, Op.operands, reduceIte, reduceCtorEq, cond_true, Bool.or_false, Bool.and_true, Nat.reduceAdd, Nat.reduceLT, Nat.reduceLeDiff, Nat.reduceEqDiff, Nat.add_zero, Nat.zero_add, and_self, implies_true, List.nil_append, List.cons_append, List.append_nil, List.all_cons, List.all_nil, Option.map_some, List.getD_cons_zero, List.getD_cons_succ, List.length_cons, List.length_nil, List.take_succ_cons, List.take_zero, List.take_nil, List.drop_succ_cons, List.drop_zero, tab3, tab98, hN, encT, w1, w2, w3, w4, hv]
def sp_impl_HalfPlane_has : PSpec := ⟨fun xs => match xs with | [.agg [.num .i64 k1, .num .i64 k2, .num .i64 k3], .num .i64 x, .num .i64 y, .num .i64 d] => ((fun (k : Tr) (x : Int) (y : Int) (d : Int) => smH k) (k1, k2, k3) x y d) ∧ ((fun (k : Tr) (x : Int) (y : Int) (d : Int) => -20000000000 ≤ x ∧ x ≤ 20000000000) (k1, k2, k3) x y d) ∧ ((fun (k : Tr) (x : Int) (y : Int) (d : Int) => -20000000000 ≤ y ∧ y ≤ 20000000000) (k1, k2, k3) x y d) ∧ ((fun (k : Tr) (x : Int) (y : Int) (d : Int) => -20000000 ≤ d ∧ d ≤ 20000000) (k1, k2, k3) x y d) | _ => False, fun xs => match xs with | [.agg [.num _ k1, .num _ k2, .num _ k3], .num _ x, .num _ y, .num _ d] => (fun (k : Tr) (x : Int) (y : Int) (d : Int) => .bool (hasH x y d k)) (k1, k2, k3) x y d | _ => .junk, false⟩
theorem gk_impl_HalfPlane_has : ∀ args, sp_impl_HalfPlane_has.pre args → ICall Try.prog 164 args (sp_impl_HalfPlane_has.val args) := by
  intro args h
  unfold sp_impl_HalfPlane_has at h ⊢; simp only at h ⊢; split at h
  · obtain ⟨h0, h1, h2, h3⟩ := h
    simp only [toPs_enc] at *
    exact c_impl_HalfPlane_has (_, _, _) _ _ _ h0 h1 h2 h3
  · exact h.elim
theorem en_impl_HalfPlane_has : Enters Try.prog 164 := enters_of Try.func164 (by kernel_rfl) rfl


/-! joining lists of half-planes -/
def g_slices_Grow_impl_HalfPlane_impl_HalfPlane : List (Nat × PSpec) := []
theorem gok_slices_Grow_impl_HalfPlane_impl_HalfPlane : GOK Try.prog g_slices_Grow_impl_HalfPlane_impl_HalfPlane := gok0
def h_slices_Grow_impl_HalfPlane_impl_HalfPlane : List (Nat × HSpec) := []
theorem hok_slices_Grow_impl_HalfPlane_impl_HalfPlane : HOK Try.prog h_slices_Grow_impl_HalfPlane_impl_HalfPlane := hok0
theorem c_slices_Grow_impl_HalfPlane_impl_HalfPlane (n : Nat) (h0 : 0 < n) (hsz : n ≤ 1000000) : HCall Try.prog 243 [.nils, .num .i64 n] (sm ([])) (.ref 0 0 0 true) (sm ([(0, .arr 3 98 [])])) := by
  refine hcall_V (G := g_slices_Grow_impl_HalfPlane_impl_HalfPlane) (H := []) [] tabOK mixed gok_slices_Grow_impl_HalfPlane_impl_HalfPlane hok_slices_Grow_impl_HalfPlane_impl_HalfPlane Try.func243 rfl Try.ntmps243 Try.results243 rfl (by kernel_rfl) fun F hN hlen => ?_
  simp only [sm]
  have d1 : decide (((n : Nat) : Int) < 0) = false := by simp only [decide_eq_false_iff_not]; omega
  have d2 : decide ((0 : Int) < ((n : Nat) : Int)) = true := by simpa using h0
  have w1 : IntKind.i64.wrap ((0 : Int) - 0) = 0 := by decide
  have w2 : IntKind.i64.wrap (((n : Nat) : Int) - 0) = ((n : Nat) : Int) := by rw [wr (by omega) (by omega)]; omega
  have w3 : IntKind.i64.wrap (((0 : Nat) : Int) - ((0 : Nat) : Int)) = 0 := by decide
  simp only [V_seq, V_skip, V_ret, V_region, V_cond, brW_true, brW_false, W_nil, W_cons, effOp2, KN_seq, KXr_nil, QE, asB, effOp, effPure, effNew, effAppend, effZeros, Option.isSome_some, skipE, pureV, srcV, binV, sliceV, lenV, ofC, strip, lkT, lkH, ISt.app, opI, gO, gB, allB, gval, wrapG, dstOK, setD, mentTm, mentHp, IV.ment, zeroElt, noId', enumT, conv, conv0, Op.operands, Call.operands, List.append_toArray, Array.append_empty, Option.toArray_none, Option.toArray_some, reduceIte, reduceCtorEq, cond_true, Bool.or_false, Bool.and_true, Nat.reduceMul, Nat.reduceLT, Nat.reduceLeDiff, Nat.reduceEqDiff, Nat.zero_add, ne_eq, not_false_eq_true, true_and, and_true, and_false, and_self, implies_true, forall_const, List.map_cons, List.map_nil, List.nil_append, List.cons_append, List.append_nil, List.all_cons, List.all_nil, Option.map_some, Option.map_none, List.length_nil, tab3, tab43, tab98, hN, Int.toNat_natCast, FinH, resA, resV, SLe, SLe0, convTm, convHp, convB, d1, d2, w1, w2]
  repeat refine And.intro (by first | omega | (simp; done) | (simp; omega)) ?_
  exact ⟨fun x => if x = 0 then 22 else x, by simp; omega⟩
def hs_slices_Grow_impl_HalfPlane_impl_HalfPlane : HSpec := ⟨[false, false], fun xs hp => match xs, hp with | [.nils, .num .i64 z], [] => (z = (z.toNat : Int)) ∧ ((fun (n : Nat) => 0 < n) z.toNat) ∧ ((fun (n : Nat) => n ≤ 1000000) z.toNat) | _, _ => False, fun xs hp => match xs, hp with | [.nils, .num .i64 z], [] => (fun (n : Nat) => (.ref 0 0 0 true : IV)) z.toNat | _, _ => .junk, fun xs hp => match xs, hp with | [.nils, .num .i64 z], [] => (fun (n : Nat) => ([(0, .arr 3 98 [])] : List (Nat × IBlk))) z.toNat | _, _ => []⟩
theorem hk_slices_Grow_impl_HalfPlane_impl_HalfPlane : ∀ args hp, hs_slices_Grow_impl_HalfPlane_impl_HalfPlane.pre args hp → HCall Try.prog 243 args (sm hp) (hs_slices_Grow_impl_HalfPlane_impl_HalfPlane.val args hp) (sm (hs_slices_Grow_impl_HalfPlane_impl_HalfPlane.hval args hp)) := by
  intro args hp h
  unfold hs_slices_Grow_impl_HalfPlane_impl_HalfPlane at h ⊢; simp only at h ⊢; split at h
  · obtain ⟨h1, h2, h3⟩ := h; rw [h1]; exact c_slices_Grow_impl_HalfPlane_impl_HalfPlane _ h2 h3
  · exact h.elim
theorem en_slices_Grow_impl_HalfPlane_impl_HalfPlane : Enters Try.prog 243 := enters_of Try.func243 (by kernel_rfl) rfl


def lensT (Ls : List (List Tr)) : Nat := (Ls.map List.length).sum
theorem lensT_step {Ls : List (List Tr)} {i : Nat} (hi : i < Ls.length) : lensT (Ls.take (i + 1)) = lensT (Ls.take i) + (Ls.getD i []).length := by
  unfold lensT
  rw [take_succ_g (d := []) hi, List.map_append, List.sum_append]
  simp
theorem flatT_step {Ls : List (List Tr)} {i : Nat} (hi : i < Ls.length) : (Ls.take (i + 1)).flatten = (Ls.take i).flatten ++ Ls.getD i [] := by
  rw [take_succ_g (d := []) hi, List.flatten_append]
  simp
theorem lensT_flat (Ls : List (List Tr)) : Ls.flatten.length = lensT Ls := by simp [lensT, List.length_flatten]
theorem lensT_le (Ls : List (List Tr)) (i : Nat) : lensT (Ls.take i) ≤ lensT Ls := by
  have : Ls = Ls.take i ++ Ls.drop i := (List.take_append_drop i Ls).symm
  have h : lensT Ls = lensT (Ls.take i) + lensT (Ls.drop i) := by
    conv => lhs; rw [this]
    simp only [lensT, List.map_append, List.sum_append]
  omega
def encLT (Ls : List (List Tr)) : List IV := Ls.map fun l => .sl 3 (encTs l)
theorem getD_encLT {Ls : List (List Tr)} {i : Nat} (h : i < Ls.length) : (encLT Ls).getD i .junk = .sl 3 (encTs (Ls.getD i [])) := by
  rw [encLT, getD_map (d := []) h]

def g_e_concatT : List (Nat × PSpec) := []
theorem gok_e_concatT : GOK Try.prog g_e_concatT := gok0
def h_e_concatT : List (Nat × HSpec) := [(243, hs_slices_Grow_impl_HalfPlane_impl_HalfPlane)]
theorem hok_e_concatT : HOK Try.prog h_e_concatT := hok_cons hk_slices_Grow_impl_HalfPlane_impl_HalfPlane en_slices_Grow_impl_HalfPlane_impl_HalfPlane (hok0)
theorem lh_e_concatT_slices_Grow_impl_HalfPlane_impl_HalfPlane : lkHS h_e_concatT 243 = some hs_slices_Grow_impl_HalfPlane_impl_HalfPlane := rfl
theorem concatT_call (Ls : List (List Tr)) (h0 : 0 < lensT Ls) (hsz : lensT Ls ≤ 1000000) (hn : Ls.length ≤ 1000000) : HCall Try.prog 216 [.sl 1 (encLT Ls)] [] (.ref 0 0 (lensT Ls) true) (sm [(0, .arr 3 98 (encTs Ls.flatten))]) := by
  refine hcall_V (G := g_e_concatT) (H := h_e_concatT) [] tabOK mixed gok_e_concatT hok_e_concatT Try.func216 rfl Try.ntmps216 Try.results216 rfl (by kernel_rfl) fun F hN hlen => ?_
  simp only [sm]
  have el : (encLT Ls).length = Ls.length := by simp [encLT]
  simp only [V_seq, V_block, V_region, W_nil, W_cons, effOp2, KN_seq, effOp, effPure, pureV, lenV, ofC, strip, lkT, ISt.app, opI, gO, gB, allB, gval, wrapG, dstOK, setD, enumT, Op.operands, Call.operands, List.append_toArray, reduceIte, reduceCtorEq, Nat.reduceLT, Nat.reduceEqDiff, ne_eq, not_false_eq_true, true_and, and_self, implies_true, List.nil_append, List.cons_append, List.append_nil, tab203, hN, el]
  refine V_loop (α := Nat) ⟨tabOK, mixed, gok_e_concatT, hok_e_concatT⟩ (by kernel_rfl) (fun i => i ≤ Ls.length) (fun i => ⟨[(11, .num .i64 i), (10, .num .i64 Ls.length), (9, .sl 1 (encLT Ls)), (3, .num .i64 (lensT (Ls.take i))), (0, .sl 1 (encLT Ls))], []⟩) (fun i => Ls.length - i) 0 id (Nat.zero_le _) (by simp [SLe, SLe0, convTm, convHp, conv, conv0, lkT, lkH, clean, lensT]) ?_
  intro i hi
  simp only [V_seq, V_region, V_cond, W_nil, W_cons, effOp2, KN_seq, asB, effOp, effPure, pureV, binV, strip, lkT, ISt.app, opI, gO, gB, allB, gval, wrapG, dstOK, setD, Op.operands, reduceIte, reduceCtorEq, Nat.reduceLT, Nat.reduceEqDiff, true_and, and_self, implies_true, List.nil_append, List.cons_append, List.append_nil, hN]
  refine brW_some (fun h => ?_) (fun h => ?_)
  · have hi' : i < Ls.length := by simpa using h
    have g1 := getD_encLT hi'
    have hw := wr_succ hi' (by rw [maxLen_eq]; omega)
    have hst := lensT_step hi'
    have hle := lensT_le Ls (i + 1)
    have e2 := len_encTs (Ls.getD i [])
    have w1 : IntKind.i64.wrap (((lensT (Ls.take i) : Nat) : Int) + (((Ls.getD i []).length : Nat) : Int)) = ((lensT (Ls.take (i + 1)) : Nat) : Int) := by rw [wr (by omega) (by omega)]; omega
    have d1 : decide (((lensT (Ls.take (i + 1)) : Nat) : Int) < 0) = false := by simp only [decide_eq_false_iff_not]; omega
    simp only [V_seq, V_skip, V_block, V_region, V_cond, brW_false, W_nil, W_cons, effOp2, KN_seq, KN_block, KN_back, asB, effOp, effPure, pureV, binV, eltV, loadV, iaddrV, lenV, ofC, strip, lkT, ISt.app, opI, gO, gB, allB, gval, wrapG, dstOK, setD, Op.operands, Call.operands, List.append_toArray, reduceIte, reduceCtorEq, Nat.reduceLT, Nat.reduceEqDiff, ne_eq, not_false_eq_true, true_and, and_true, and_self, implies_true, forall_const, List.nil_append, List.cons_append, List.append_nil, tab43, tab203, hN, Int.toNat_natCast, el, g1, hw, e2, w1, d1]
    repeat refine And.intro (by first | omega | (simp; done) | (simp; omega)) ?_
    exact ⟨i + 1, id, by simp only []; omega, by simp only []; omega, by simp [SLe, SLe0, convTm, convHp, conv, conv0, lkT, lkH, clean]⟩
  · have hie : i = Ls.length := by simp at h; omega
    subst hie
    have z1 : 0 < lensT Ls := h0
    simp only [V_seq, V_exit, V_block, V_region, W_nil, W_cons, effOp2, KN_seq, KXe_nil, KXe_seq, KXe_block, KXe_back, QE, effOp, effPure, Option.isSome_some, skipE, pureV, lenV, ofC, strip, lkT, lkH, ISt.app, opI, gO, gB, allB, gval, wrapG, dstOK, setD, mentTm, mentHp, IV.ment, idsV, idsL, clean, callArgs, callFn, enumT, conv, conv0, IBlk.shape, Op.operands, Call.operands, List.append_toArray, reduceIte, reduceCtorEq, cond_true, cond_false, Bool.or_false, Bool.and_true, Bool.not_false, Nat.reduceAdd, Nat.reduceSub, Nat.reduceMul, Nat.reduceLT, Nat.reduceLeDiff, Nat.reduceEqDiff, Nat.add_zero, Nat.zero_add, ne_eq, not_false_eq_true, true_and, and_false, and_self, implies_true, List.map_cons, List.map_nil, List.nil_append, List.cons_append, List.append_nil, List.all_nil, Option.map_none, List.length_nil, List.take_nil, ex_clo, or_self, tab203, hN, Int.toNat_natCast, FinH, SLe0, convTm, convHp, convB, sm, effH, mkHC0, mkHC1, lendM, lentM, lentI, allHere, addIds, flatIds, reach, posn, renV, renL, renB, renH, numB, subHp, fwd, bk, bwd, nones, keyOK, noSl, noSlL, flatBs, List.contains, List.elem, Option.isSome_some, List.nodup_nil, List.nodup_cons, List.not_mem_nil, Option.getD_some, lh_e_concatT_slices_Grow_impl_HalfPlane_impl_HalfPlane, hs_slices_Grow_impl_HalfPlane_impl_HalfPlane, List.take_length, z1, hsz, el]
    refine V_loop (α := Nat) ⟨tabOK, mixed, gok_e_concatT, hok_e_concatT⟩ (by kernel_rfl) (fun i => i ≤ Ls.length) (fun i => ⟨[(27, .num .i64 i), (26, .num .i64 Ls.length), (25, .sl 1 (encLT Ls)), (6, .ref 2384 0 (lensT (Ls.take i)) true)], [(2384, some (.arr 3 98 (encTs (Ls.take i).flatten)))]⟩) (fun i => Ls.length - i) 0 id (Nat.zero_le _) (by simp [SLe, SLe0, convTm, convHp, convB, conv, conv0, lkT, lkH, clean, lensT, encTs]) ?_
    intro i hi
    have lf := len_encTs (Ls.take i).flatten
    rw [lensT_flat] at lf
    simp only [V_seq, V_region, V_cond, W_nil, W_cons, effOp2, KN_seq, asB, effOp, effPure, pureV, binV, strip, lkT, ISt.app, opI, gO, gB, allB, gval, wrapG, dstOK, setD, Op.operands, reduceIte, Nat.reduceLT, Nat.reduceEqDiff, true_and, and_self, implies_true, List.nil_append, List.cons_append, hN]
    refine brW_some (fun h => ?_) (fun h => ?_)
    · have hi' : i < Ls.length := by simpa using h
      have g1 := getD_encLT hi'
      have hw := wr_succ hi' (by rw [maxLen_eq]; omega)
      have hst := lensT_step hi'
      have hfl := flatT_step hi'
      have hle := lensT_le Ls (i + 1)
      have e2 := len_encTs (Ls.getD i [])
      simp only [V_seq, V_skip, V_block, V_region, W_nil, W_cons, effOp2, KN_seq, KN_block, KN_back, effOp, effPure, effAppend, effZeros, skipE, pureV, srcV, refId, binV, eltV, loadV, iaddrV, ofC, strip, lkT, lkH, ISt.app, opI, gO, gB, allB, gval, wrapG, dstOK, setD, mentTm, mentHp, IV.ment, Op.operands, reduceIte, reduceCtorEq, cond_true, Bool.or_false, Nat.reduceLT, Nat.reduceEqDiff, Nat.reduceBEq, ne_eq, not_false_eq_true, true_and, and_true, and_self, implies_true, forall_const, List.nil_append, List.cons_append, tab43, tab98, tab203, hN, Int.toNat_natCast, el, g1, hw, e2, lf]
      repeat refine And.intro (by first | omega | (simp; done) | (simp; omega)) ?_
      refine ⟨i + 1, fun x => if x = 2384 then 33 else x, by simp only []; omega, by simp only []; omega, ?_⟩
      simp [SLe, SLe0, convTm, convHp, convB, conv, conv0, lkT, lkH, clean]
      refine ⟨⟨hst.symm, take_eq_of ?_⟩, fun x a1 a2 a3 => by omega⟩
      have tk : List.take (lensT (List.take i Ls)) (encTs (List.take i Ls).flatten) = encTs (List.take i Ls).flatten := List.take_of_length_le (Nat.le_of_eq lf)
      rw [hfl, ← encTs_app, tk]
      simp [List.getD]
    · have hie : i = Ls.length := by simp at h; omega
      subst hie
      rw [List.take_length] at lf
      simp only [V_seq, V_ret, V_exit, V_region, W_nil, W_cons, effOp2, KN_seq, KXr_nil, KXe_nil, KXe_seq, KXe_block, KXe_back, QE, effOp, effPure, Option.isSome_some, pureV, strip, lkT, lkH, ISt.app, opI, gO, gB, allB, gval, wrapG, dstOK, setD, conv, conv0, Op.operands, reduceIte, Nat.reduceLT, Nat.reduceEqDiff, not_false_eq_true, true_and, and_true, and_self, implies_true, List.map_cons, List.map_nil, List.nil_append, List.cons_append, hN, FinH, resA, resV, SLe, SLe0, convTm, convHp, convB, Option.isSome_some, List.nodup_nil, List.nodup_cons, List.not_mem_nil, List.take_length]
      exact ⟨fun x => if x = 0 then 2384 else x, by simp; omega⟩
def g_slices_Grow_impl_HalfPlane_impl_HalfPlane_z : List (Nat × PSpec) := []
theorem gok_slices_Grow_impl_HalfPlane_impl_HalfPlane_z : GOK Try.prog g_slices_Grow_impl_HalfPlane_impl_HalfPlane_z := gok0
def h_slices_Grow_impl_HalfPlane_impl_HalfPlane_z : List (Nat × HSpec) := []
theorem hok_slices_Grow_impl_HalfPlane_impl_HalfPlane_z : HOK Try.prog h_slices_Grow_impl_HalfPlane_impl_HalfPlane_z := hok0
theorem c_slices_Grow_impl_HalfPlane_impl_HalfPlane_z   : ICall Try.prog 243 [.nils, .num .i64 0] (.nils) := by
  refine icall_V (G := g_slices_Grow_impl_HalfPlane_impl_HalfPlane_z) (H := []) [] tabOK mixed gok_slices_Grow_impl_HalfPlane_impl_HalfPlane_z hok_slices_Grow_impl_HalfPlane_impl_HalfPlane_z Try.func243 rfl Try.ntmps243 Try.results243 rfl (by kernel_rfl) fun F hN hlen => ?_
  have d1 : decide ((0 : Int) < 0) = false := by decide
  have w1 : IntKind.i64.wrap ((0 : Int) - 0) = 0 := by decide
  simp only [V_seq, V_skip, V_ret, V_region, V_cond, brW_false, W_nil, W_cons, effOp2, KN_seq, KXr_nil, QE, asB, effOp, effPure, pureV, binV, lenV, ofC, strip, lkT, lkH, ISt.app, opI, gO, gB, allB, gval, wrapG, dstOK, setD, clean, enumT, Gives, Ideal.Fin, conv, conv0, Op.operands, Call.operands, List.append_toArray, reduceIte, reduceCtorEq, Nat.reduceLT, Nat.reduceEqDiff, Nat.zero_add, ne_eq, not_false_eq_true, and_self, implies_true, List.nil_append, List.cons_append, List.append_nil, tab43, hN, d1, w1]
def sp_slices_Grow_impl_HalfPlane_impl_HalfPlane_z : PSpec := ⟨fun xs => match xs with | [.nils, .num .i64 0] => True | _ => False, fun xs => match xs with | [.nils, .num .i64 0] => (.nils) | _ => .junk, false⟩
theorem gk_slices_Grow_impl_HalfPlane_impl_HalfPlane_z : ∀ args, sp_slices_Grow_impl_HalfPlane_impl_HalfPlane_z.pre args → ICall Try.prog 243 args (sp_slices_Grow_impl_HalfPlane_impl_HalfPlane_z.val args) := by
  intro args h
  unfold sp_slices_Grow_impl_HalfPlane_impl_HalfPlane_z at h ⊢; simp only at h ⊢; split at h
  · exact c_slices_Grow_impl_HalfPlane_impl_HalfPlane_z 
  · exact h.elim
theorem en_slices_Grow_impl_HalfPlane_impl_HalfPlane_z : Enters Try.prog 243 := enters_of Try.func243 (by kernel_rfl) rfl

theorem lensT_zero {Ls : List (List Tr)} (h : lensT Ls = 0) {i : Nat} (hi : i < Ls.length) : Ls.getD i [] = [] := by
  have h1 := lensT_step hi
  have h2 := lensT_le Ls (i + 1)
  exact List.length_eq_zero_iff.1 (by omega)
def g_e_concatT0 : List (Nat × PSpec) := [(243, sp_slices_Grow_impl_HalfPlane_impl_HalfPlane_z)]
theorem gok_e_concatT0 : GOK Try.prog g_e_concatT0 := gok_cons gk_slices_Grow_impl_HalfPlane_impl_HalfPlane_z en_slices_Grow_impl_HalfPlane_impl_HalfPlane_z (gok0)
theorem lk_e_concatT0_slices_Grow_impl_HalfPlane_impl_HalfPlane_z : lkG g_e_concatT0 243 = sp_slices_Grow_impl_HalfPlane_impl_HalfPlane_z := rfl
def h_e_concatT0 : List (Nat × HSpec) := []
theorem hok_e_concatT0 : HOK Try.prog h_e_concatT0 := hok0
theorem concatT_zero (Ls : List (List Tr)) (h0 : lensT Ls = 0) (hn : Ls.length ≤ 1000000) : ICall Try.prog 216 [.sl 1 (encLT Ls)] (.sl 3 []) := by
  refine icall_V (G := g_e_concatT0) (H := []) [] tabOK mixed gok_e_concatT0 hok_e_concatT0 Try.func216 rfl Try.ntmps216 Try.results216 rfl (by kernel_rfl) fun F hN hlen => ?_
  have el : (encLT Ls).length = Ls.length := by simp [encLT]
  have d1 : decide ((0 : Int) < 0) = false := by decide
  have w1 : IntKind.i64.wrap ((0 : Int) + ((0 : Nat) : Int)) = 0 := by decide
  simp only [V_seq, V_block, V_region, W_nil, W_cons, effOp2, KN_seq, effOp, effPure, pureV, lenV, ofC, strip, lkT, ISt.app, opI, gO, gB, allB, gval, wrapG, dstOK, setD, enumT, Op.operands, Call.operands, List.append_toArray, reduceIte, reduceCtorEq, Nat.reduceLT, Nat.reduceEqDiff, ne_eq, not_false_eq_true, true_and, and_self, implies_true, List.nil_append, List.cons_append, List.append_nil, tab203, hN, el]
  refine V_loop (α := Nat) ⟨tabOK, mixed, gok_e_concatT0, hok_e_concatT0⟩ (by kernel_rfl) (fun i => i ≤ Ls.length) (fun i => ⟨[(11, .num .i64 i), (10, .num .i64 Ls.length), (9, .sl 1 (encLT Ls)), (3, .num .i64 0), (0, .sl 1 (encLT Ls))], []⟩) (fun i => Ls.length - i) 0 id (Nat.zero_le _) (by simp [SLe, SLe0, convTm, convHp, conv, conv0, lkT, lkH, clean]) ?_
  intro i hi
  simp only [V_seq, V_region, V_cond, W_nil, W_cons, effOp2, KN_seq, asB, effOp, effPure, pureV, binV, strip, lkT, ISt.app, opI, gO, gB, allB, gval, wrapG, dstOK, setD, Op.operands, reduceIte, reduceCtorEq, Nat.reduceLT, Nat.reduceEqDiff, true_and, and_self, implies_true, List.nil_append, List.cons_append, List.append_nil, hN]
  refine brW_some (fun h => ?_) (fun h => ?_)
  · have hi' : i < Ls.length := by simpa using h
    have g1 := getD_encLT hi'
    rw [lensT_zero h0 hi'] at g1
    have hw := wr_succ hi' (by rw [maxLen_eq]; omega)
    have e0 : encTs [] = [] := rfl
    rw [e0] at g1
    simp only [V_seq, V_skip, V_block, V_region, V_cond, brW_false, W_nil, W_cons, effOp2, KN_seq, KN_block, KN_back, asB, effOp, effPure, pureV, binV, eltV, loadV, iaddrV, lenV, ofC, strip, lkT, ISt.app, opI, gO, gB, allB, gval, wrapG, dstOK, setD, Op.operands, Call.operands, List.append_toArray, reduceIte, reduceCtorEq, Nat.reduceLT, Nat.reduceEqDiff, ne_eq, not_false_eq_true, true_and, and_true, and_self, implies_true, forall_const, List.nil_append, List.cons_append, List.append_nil, List.length_nil, tab43, tab203, hN, Int.toNat_natCast, el, g1, hw, w1, d1]
    repeat refine And.intro (by first | omega | (simp; done) | (simp; omega)) ?_
    exact ⟨i + 1, id, by simp only []; omega, by simp only []; omega, by simp [SLe, SLe0, convTm, convHp, conv, conv0, lkT, lkH, clean]⟩
  · have hie : i = Ls.length := by simp at h; omega
    subst hie
    simp only [V_seq, V_exit, V_block, V_region, W_nil, W_cons, effOp2, KN_seq, KXe_nil, KXe_seq, KXe_block, KXe_back, QE, effOp, effPure, effCall, giveUp, hasAll, pureV, lenV, ofC, strip, lkT, lkH, ISt.app, opI, gO, gB, allB, gval, wrapG, dstOK, setD, lendV, lendP, lent, lentP, idsV, idsL, lkHS, flat, clean, callArgs, callFn, allLent, Ideal.Fin, Op.operands, Call.operands, List.append_toArray, reduceIte, reduceCtorEq, cond_true, Bool.or_false, Bool.not_true, Nat.reduceLT, Nat.reduceEqDiff, ne_eq, not_false_eq_true, true_and, and_self, implies_true, List.map_cons, List.map_nil, List.nil_append, List.cons_append, List.append_nil, ex_clo, or_self, tab203, hN, lk_e_concatT0_slices_Grow_impl_HalfPlane_impl_HalfPlane_z, sp_slices_Grow_impl_HalfPlane_impl_HalfPlane_z, el]
    refine V_loop (α := Nat) ⟨tabOK, mixed, gok_e_concatT0, hok_e_concatT0⟩ (by kernel_rfl) (fun i => i ≤ Ls.length) (fun i => ⟨[(27, .num .i64 i), (26, .num .i64 Ls.length), (25, .sl 1 (encLT Ls)), (6, .sl 3 [])], []⟩) (fun i => Ls.length - i) 0 id (Nat.zero_le _) (by simp [SLe, SLe0, convTm, convHp, conv, conv0, lkT, lkH, clean]) ?_
    intro i hi
    simp only [V_seq, V_region, V_cond, W_nil, W_cons, effOp2, KN_seq, asB, effOp, effPure, pureV, binV, strip, lkT, ISt.app, opI, gO, gB, allB, gval, wrapG, dstOK, setD, Op.operands, reduceIte, Nat.reduceLT, Nat.reduceEqDiff, true_and, and_self, implies_true, List.nil_append, List.cons_append, List.append_nil, hN]
    refine brW_some (fun h => ?_) (fun h => ?_)
    · have hi' : i < Ls.length := by simpa using h
      have g1 := getD_encLT hi'
      rw [lensT_zero h0 hi'] at g1
      have hw := wr_succ hi' (by rw [maxLen_eq]; omega)
      have e0 : encTs [] = [] := rfl
      rw [e0] at g1
      simp only [V_seq, V_skip, V_block, V_region, W_nil, W_cons, effOp2, KN_seq, KN_block, KN_back, effOp, effPure, effAppend, effZeros, skipE, pureV, srcV, binV, eltV, loadV, iaddrV, ofC, strip, lkT, ISt.app, opI, gO, gB, allB, gval, wrapG, dstOK, setD, Op.operands, reduceIte, reduceCtorEq, cond_true, Nat.reduceLT, Nat.reduceEqDiff, ne_eq, not_false_eq_true, true_and, and_true, and_self, implies_true, forall_const, List.nil_append, List.cons_append, List.append_nil, List.length_nil, tab43, tab98, tab203, hN, Int.toNat_natCast, el, g1, hw]
      repeat refine And.intro (by first | omega | (simp; done) | (simp; omega)) ?_
      exact ⟨i + 1, id, by simp only []; omega, by simp only []; omega, by simp [SLe, SLe0, convTm, convHp, conv, conv0, lkT, lkH, clean]⟩
    · have hie : i = Ls.length := by simp at h; omega
      subst hie
      simp only [V_seq, V_ret, V_exit, V_region, W_nil, W_cons, effOp2, KN_seq, KXr_nil, KXe_nil, KXe_seq, KXe_block, KXe_back, QE, effOp, effPure, pureV, strip, lkT, lkH, ISt.app, opI, gO, gB, allB, gval, wrapG, dstOK, setD, Gives, Ideal.Fin, conv, conv0, Op.operands, reduceIte, Nat.reduceLT, Nat.reduceEqDiff, and_self, implies_true, List.nil_append, List.cons_append, List.append_nil, hN]
def g_slices_Concat_impl_HalfPlane_impl_HalfPlane_two : List (Nat × PSpec) := []
theorem gok_slices_Concat_impl_HalfPlane_impl_HalfPlane_two : GOK Try.prog g_slices_Concat_impl_HalfPlane_impl_HalfPlane_two := gok0
def h_slices_Concat_impl_HalfPlane_impl_HalfPlane_two : List (Nat × HSpec) := [(243, hs_slices_Grow_impl_HalfPlane_impl_HalfPlane)]
theorem hok_slices_Concat_impl_HalfPlane_impl_HalfPlane_two : HOK Try.prog h_slices_Concat_impl_HalfPlane_impl_HalfPlane_two := hok_cons hk_slices_Grow_impl_HalfPlane_impl_HalfPlane en_slices_Grow_impl_HalfPlane_impl_HalfPlane (hok0)
theorem lh_slices_Concat_impl_HalfPlane_impl_HalfPlane_two_slices_Grow_impl_HalfPlane_impl_HalfPlane : lkHS h_slices_Concat_impl_HalfPlane_impl_HalfPlane_two 243 = some hs_slices_Grow_impl_HalfPlane_impl_HalfPlane := rfl
theorem c_slices_Concat_impl_HalfPlane_impl_HalfPlane_two (a : List Tr) (b : List Tr) (h0 : 0 < a.length + b.length) (hsz : a.length + b.length ≤ 1000000) : ICallF Try.prog 216 [.sl 1 [.sl 3 (encTs a), .sl 3 (encTs b)]] (.sl 3 (encTs (a ++ b))) := by
  have h := concatT_call [a, b] (by simpa [lensT] using h0) (by simpa [lensT] using hsz) (by simp)
  refine icallF_ref (by simpa [encLT] using h) ?_ (noSl_encTs _)
  rw [len_encTs]; simp [lensT]
def sp_slices_Concat_impl_HalfPlane_impl_HalfPlane_two : PSpec := ⟨fun xs => match xs with | [.sl 1 [.sl 3 aes, .sl 3 bes]] => isTs aes ∧ isTs bes ∧ ((fun (a : List Tr) (b : List Tr) => 0 < a.length + b.length) (toTs aes) (toTs bes)) ∧ ((fun (a : List Tr) (b : List Tr) => a.length + b.length ≤ 1000000) (toTs aes) (toTs bes)) | _ => False, fun xs => match xs with | [.sl 1 [.sl 3 aes, .sl 3 bes]] => (fun (a : List Tr) (b : List Tr) => .sl 3 (encTs (a ++ b))) (toTs aes) (toTs bes) | _ => .junk, true⟩
theorem gk_slices_Concat_impl_HalfPlane_impl_HalfPlane_two : ∀ args, sp_slices_Concat_impl_HalfPlane_impl_HalfPlane_two.pre args → ICallF Try.prog 216 args (sp_slices_Concat_impl_HalfPlane_impl_HalfPlane_two.val args) ∧ ∀ id, (sp_slices_Concat_impl_HalfPlane_impl_HalfPlane_two.val args).ment id = false := by
  intro args h
  unfold sp_slices_Concat_impl_HalfPlane_impl_HalfPlane_two at h ⊢; simp only at h ⊢; split at h
  · obtain ⟨h0, h1, h2, h3⟩ := h
    obtain ⟨l0, rfl⟩ := isT_ex h0
    obtain ⟨l1, rfl⟩ := isT_ex h1
    simp only [toTs_enc] at *
    exact ⟨c_slices_Concat_impl_HalfPlane_impl_HalfPlane_two _ _ h2 h3, fun id => rfl⟩
  · exact h.elim
theorem en_slices_Concat_impl_HalfPlane_impl_HalfPlane_two : Enters Try.prog 216 := enters_of Try.func216 (by kernel_rfl) rfl

def g_slices_Concat_impl_HalfPlane_impl_HalfPlane_zero : List (Nat × PSpec) := []
theorem gok_slices_Concat_impl_HalfPlane_impl_HalfPlane_zero : GOK Try.prog g_slices_Concat_impl_HalfPlane_impl_HalfPlane_zero := gok0
def h_slices_Concat_impl_HalfPlane_impl_HalfPlane_zero : List (Nat × HSpec) := [(243, hs_slices_Grow_impl_HalfPlane_impl_HalfPlane)]
theorem hok_slices_Concat_impl_HalfPlane_impl_HalfPlane_zero : HOK Try.prog h_slices_Concat_impl_HalfPlane_impl_HalfPlane_zero := hok_cons hk_slices_Grow_impl_HalfPlane_impl_HalfPlane en_slices_Grow_impl_HalfPlane_impl_HalfPlane (hok0)
theorem lh_slices_Concat_impl_HalfPlane_impl_HalfPlane_zero_slices_Grow_impl_HalfPlane_impl_HalfPlane : lkHS h_slices_Concat_impl_HalfPlane_impl_HalfPlane_zero 243 = some hs_slices_Grow_impl_HalfPlane_impl_HalfPlane := rfl
theorem c_slices_Concat_impl_HalfPlane_impl_HalfPlane_zero   : ICall Try.prog 216 [.sl 1 [.sl 3 [], .sl 3 []]] (.sl 3 []) := by
  have h := concatT_zero [[], []] rfl (by simp)
  simpa [encLT, encTs] using h
def sp_slices_Concat_impl_HalfPlane_impl_HalfPlane_zero : PSpec := ⟨fun xs => match xs with | [.sl 1 [.sl 3 [], .sl 3 []]] => True | _ => False, fun xs => match xs with | [.sl 1 [.sl 3 [], .sl 3 []]] => (.sl 3 []) | _ => .junk, false⟩
theorem gk_slices_Concat_impl_HalfPlane_impl_HalfPlane_zero : ∀ args, sp_slices_Concat_impl_HalfPlane_impl_HalfPlane_zero.pre args → ICall Try.prog 216 args (sp_slices_Concat_impl_HalfPlane_impl_HalfPlane_zero.val args) := by
  intro args h
  unfold sp_slices_Concat_impl_HalfPlane_impl_HalfPlane_zero at h ⊢; simp only at h ⊢; split at h
  · exact c_slices_Concat_impl_HalfPlane_impl_HalfPlane_zero 
  · exact h.elim
theorem en_slices_Concat_impl_HalfPlane_impl_HalfPlane_zero : Enters Try.prog 216 := enters_of Try.func216 (by kernel_rfl) rfl

def g_impl_frame : List (Nat × PSpec) := [(216, sp_slices_Concat_impl_HalfPlane_impl_HalfPlane_two)]
theorem gok_impl_frame : GOK Try.prog g_impl_frame := gok_consO gk_slices_Concat_impl_HalfPlane_impl_HalfPlane_two en_slices_Concat_impl_HalfPlane_impl_HalfPlane_two (gok0)
theorem lk_impl_frame_slices_Concat_impl_HalfPlane_impl_HalfPlane_two : lkG g_impl_frame 216 = sp_slices_Concat_impl_HalfPlane_impl_HalfPlane_two := rfl
def h_impl_frame : List (Nat × HSpec) := []
theorem hok_impl_frame : HOK Try.prog h_impl_frame := hok0
theorem c_impl_frame (l : List Tr) (hsz : l.length ≤ 100000) : ICall Try.prog 162 [.sl 3 (encTs l)] (.sl 3 (encTs (l ++ boxL))) := by
  refine icall_V (G := g_impl_frame) (H := []) [] tabOK mixed gok_impl_frame hok_impl_frame Try.func162 rfl Try.ntmps162 Try.results162 rfl (by kernel_rfl) fun F hN hlen => ?_
  have hb : encTs boxL = [.agg [.num .i64 1, .num .i64 0, .num .i64 1000], .agg [.num .i64 (-1), .num .i64 0, .num .i64 1000], .agg [.num .i64 0, .num .i64 1, .num .i64 1000], .agg [.num .i64 0, .num .i64 (-1), .num .i64 1000]] := rfl
  have z1 : 0 < l.length + boxL.length := by simp [boxL]
  have z2 : l.length + boxL.length ≤ 1000000 := by simp [boxL]; omega
  have tb : (encTs boxL).take 4 = encTs boxL := rfl
  simp only [V_seq, V_ret, V_region, W_nil, W_cons, effOp2, KN_seq, KXr_nil, QE, effOp, effPure, effNew, effBuildSlice, effFrz, frz, tmpsOf, effCall, giveUp, hasAll, Option.isSome_some, skipE, pureV, over, solid, buildL, IV.cells, ofC, strip, lkT, lkH, ISt.app, opI, gO, gB, allB, gval, wrapG, dstOK, setD, mentTm, mentHp, IV.ment, IV.mentL, partsL, eltsI, eltI, noId', lendV, lendP, lent, lentP, idsV, idsL, lkHS, flat, clean, callArgs, callFn, allLent, enumT, Gives, Ideal.Fin, conv, conv0, Op.operands, reduceIte, reduceCtorEq, cond_true, Bool.or_false, Bool.or_true, Bool.not_true, Nat.reduceAdd, Nat.reduceMul, Nat.reduceLT, Nat.reduceLeDiff, Nat.reduceEqDiff, Nat.reduceBEq, Nat.zero_add, ne_eq, not_false_eq_true, true_and, and_true, and_self, implies_true, List.map_cons, List.map_nil, List.nil_append, List.cons_append, List.append_nil, List.getD_cons_zero, List.getD_cons_succ, List.length_cons, List.length_nil, List.take_succ_cons, List.take_zero, List.take_nil, List.drop_succ_cons, List.drop_zero, List.drop_nil, ex_clo, or_self, tab43, tab98, tab203, hN, isTs_enc, toTs_enc, lk_impl_frame_slices_Concat_impl_HalfPlane_impl_HalfPlane_two, sp_slices_Concat_impl_HalfPlane_impl_HalfPlane_two, ← hb, z1, z2, tb]
  exact ⟨by simp [encTs, boxL, encT, eltsI, eltI, oneI, noId'], by simp [encTs, boxL]⟩
def sp_impl_frame : PSpec := ⟨fun xs => match xs with | [.sl 3 les] => isTs les ∧ ((fun (l : List Tr) => l.length ≤ 100000) (toTs les)) | _ => False, fun xs => match xs with | [.sl _ les] => (fun (l : List Tr) => .sl 3 (encTs (l ++ boxL))) (toTs les) | _ => .junk, false⟩
theorem gk_impl_frame : ∀ args, sp_impl_frame.pre args → ICall Try.prog 162 args (sp_impl_frame.val args) := by
  intro args h
  unfold sp_impl_frame at h ⊢; simp only at h ⊢; split at h
  · obtain ⟨h0, h1⟩ := h
    obtain ⟨l0, rfl⟩ := isT_ex h0
    simp only [toTs_enc] at *
    exact c_impl_frame _ h1
  · exact h.elim
theorem en_impl_frame : Enters Try.prog 162 := enters_of Try.func162 (by kernel_rfl) rfl

end Go.Proofs.Ytemppebemahkoaa
