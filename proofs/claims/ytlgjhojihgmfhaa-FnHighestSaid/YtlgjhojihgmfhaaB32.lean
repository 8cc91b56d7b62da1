/- Contracts: Corners, the highest corner; the exact laws on them. -/
import Derived.Test.YtlgjhojihgmfhaaB31
import Derived.Test.YtlgjhojihgmfhaaBZ
set_option linter.unusedVariables false
set_option linter.unusedSimpArgs false
set_option maxHeartbeats 1600000
set_option maxRecDepth 100000
namespace Go.Proofs.Ytlgjhojihgmfhaa
open Go Go.Ideal Go.Pl Go.Sort

theorem okHs_sm {l : List Tr} (h : okHs l = true) : ∀ k ∈ l, smH k := by
  simp only [okHs, Bool.and_eq_true, List.all_eq_true] at h
  exact fun k hk => okHb_sm (h.1 k hk)
theorem okHs_len {l : List Tr} (h : okHs l = true) : l.length ≤ 8 := by
  simp only [okHs, Bool.and_eq_true, decide_eq_true_eq] at h
  exact h.2
theorem cornP_len {l : List Tr} (h : l.length ≤ 100) : (cornP l).length ≤ 100000 := by
  have h1 := fold_len (rawAll (l ++ boxL) (l ++ boxL).length) []
  have h2 := raw_len (l ++ boxL) (l ++ boxL).length
  have hb : (l ++ boxL).length ≤ 104 := by simp [boxL]; omega
  have h3 : (l ++ boxL).length * (l ++ boxL).length ≤ 104 * 104 := Nat.mul_le_mul hb hb
  rw [List.length_nil] at h1
  unfold cornP; omega
theorem corn_good {l : List Tr} (hs : ∀ k ∈ l, smH k) : ∀ q ∈ cornP l, goodQ q := fun q hq => raw_good (frame_at hs) _ q (mem_corn.1 hq)
theorem corn_sqs {l : List Tr} (hs : ∀ k ∈ l, smH k) : ∀ q ∈ cornP l, sqQ q := corn_sq (frame_at hs)
def g_impl_corners_v : List (Nat × PSpec) := [(178, sp_impl_frame), (156, sp_impl_reduced)]
theorem gok_impl_corners_v : GOK Try.prog g_impl_corners_v := gok_cons gk_impl_frame en_impl_frame (gok_cons gk_impl_reduced en_impl_reduced (gok0))
theorem lk_impl_corners_v_impl_frame : lkG g_impl_corners_v 178 = sp_impl_frame := rfl
theorem lk_impl_corners_v_impl_reduced : lkG g_impl_corners_v 156 = sp_impl_reduced := rfl
def h_impl_corners_v : List (Nat × HSpec) := [(80, hs_slices_SortFunc_impl_RatPoint_impl_RatPoint), (83, hs_slices_Compact_impl_RatPoint_impl_RatPoint), (82, hs_slices_Clip_impl_RatPoint_impl_RatPoint)]
theorem hok_impl_corners_v : HOK Try.prog h_impl_corners_v := hok_cons hk_slices_SortFunc_impl_RatPoint_impl_RatPoint en_slices_SortFunc_impl_RatPoint_impl_RatPoint (hok_cons hk_slices_Compact_impl_RatPoint_impl_RatPoint en_slices_Compact_impl_RatPoint_impl_RatPoint (hok_cons hk_slices_Clip_impl_RatPoint_impl_RatPoint en_slices_Clip_impl_RatPoint_impl_RatPoint (hok0)))
theorem lh_impl_corners_v_impl_frame : lkHS h_impl_corners_v 178 = none := rfl
theorem lh_impl_corners_v_impl_reduced : lkHS h_impl_corners_v 156 = none := rfl
theorem lh_impl_corners_v_slices_SortFunc_impl_RatPoint_impl_RatPoint : lkHS h_impl_corners_v 80 = some hs_slices_SortFunc_impl_RatPoint_impl_RatPoint := rfl
theorem lh_impl_corners_v_slices_Compact_impl_RatPoint_impl_RatPoint : lkHS h_impl_corners_v 83 = some hs_slices_Compact_impl_RatPoint_impl_RatPoint := rfl
theorem lh_impl_corners_v_slices_Clip_impl_RatPoint_impl_RatPoint : lkHS h_impl_corners_v 82 = some hs_slices_Clip_impl_RatPoint_impl_RatPoint := rfl
theorem c_impl_corners_v (l : List Tr) (hs : ∀ k ∈ l, smH k) (hsz : l.length ≤ 100) : ICallF Try.prog 104 [.sl 3 (encTs l)] (.sl 4 (encQs (cornP l))) := by
  exact icallF_ref' (c_impl_corners_h l hs hsz) (len_encQs _).symm (noSl_encQs _)
def sp_impl_corners_v : PSpec := ⟨fun xs => match xs with | [.sl 3 les] => isTs les ∧ ((fun (l : List Tr) => ∀ k ∈ l, smH k) (toTs les)) ∧ ((fun (l : List Tr) => l.length ≤ 100) (toTs les)) | _ => False, fun xs => match xs with | [.sl _ les] => (fun (l : List Tr) => .sl 4 (encQs (cornP l))) (toTs les) | _ => .junk, true⟩
theorem gk_impl_corners_v : ∀ args, sp_impl_corners_v.pre args → ICallF Try.prog 104 args (sp_impl_corners_v.val args) ∧ ∀ id, (sp_impl_corners_v.val args).ment id = false := by
  intro args h
  unfold sp_impl_corners_v at h ⊢; simp only at h ⊢; split at h
  · obtain ⟨h0, h1, h2⟩ := h
    obtain ⟨l0, rfl⟩ := isT_ex h0
    simp only [toTs_enc] at *
    exact ⟨c_impl_corners_v _ h1 h2, fun id => rfl⟩
  · exact h.elim
theorem en_impl_corners_v : Enters Try.prog 104 := enters_of Try.func104 (by kernel_rfl) rfl

def g_impl_Corners_h : List (Nat × PSpec) := [(100, sp_impl_ValidHalves)]
theorem gok_impl_Corners_h : GOK Try.prog g_impl_Corners_h := gok_cons gk_impl_ValidHalves en_impl_ValidHalves (gok0)
theorem lk_impl_Corners_h_impl_ValidHalves : lkG g_impl_Corners_h 100 = sp_impl_ValidHalves := rfl
def h_impl_Corners_h : List (Nat × HSpec) := [(104, hs_impl_corners_h)]
theorem hok_impl_Corners_h : HOK Try.prog h_impl_Corners_h := hok_cons hk_impl_corners_h en_impl_corners_h (hok0)
theorem lh_impl_Corners_h_impl_ValidHalves : lkHS h_impl_Corners_h 100 = none := rfl
theorem lh_impl_Corners_h_impl_corners_h : lkHS h_impl_Corners_h 104 = some hs_impl_corners_h := rfl
theorem c_impl_Corners_h (l : List Tr) (hk : okHs l = true) : HCall Try.prog 39 [.sl 3 (encTs l)] (sm ([])) (.ref 0 0 (cornP l).length false) (sm ([(0, .arr 4 55 (encQs (cornP l)))])) := by
  refine hcall_V (G := g_impl_Corners_h) (H := h_impl_Corners_h) [] tabOK mixed gok_impl_Corners_h hok_impl_Corners_h Try.func39 rfl Try.ntmps39 Try.results39 rfl (by kernel_rfl) fun F hN hlen => ?_
  simp only [sm]
  have hs := okHs_sm hk
  have hz : l.length ≤ 100 := by have := okHs_len hk; omega
  have e1 := len_encQs (cornP l)
  simp only [V_seq, V_skip, V_ret, V_region, V_cond, brW_false, W_nil, W_cons, effOp2, KN_seq, KXr_nil, QE, asB, effOp, effPure, effCall, giveUp, hasAll, Option.isSome_some, skipE, pureV, ofC, strip, lkT, lkH, ISt.app, opI, gO, gB, allB, gval, wrapG, dstOK, setD, mentTm, mentHp, IV.ment, lendV, lendP, lent, lentP, idsV, idsL, flat, clean, callArgs, callFn, allLent, enumT, conv, conv0, IBlk.shape, Op.operands, reduceIte, reduceCtorEq, cond_true, cond_false, Bool.or_false, Bool.and_true, Bool.not_true, Bool.not_false, Nat.reduceAdd, Nat.reduceSub, Nat.reduceMul, Nat.reduceLT, Nat.reduceLeDiff, Nat.reduceEqDiff, Nat.add_zero, not_false_eq_true, true_and, and_true, and_false, and_self, false_implies, implies_true, List.map_cons, List.map_nil, List.nil_append, List.cons_append, List.append_nil, List.all_nil, Option.map_none, ex_clo, true_or, or_self, Bool.false_eq_true, hN, isTs_enc, toTs_enc, FinH, resA, resV, SLe, SLe0, convTm, convHp, convB, sm, effH, mkHC0, mkHC1, lendM, lentM, lentI, allHere, addIds, flatIds, reach, posn, renV, renL, renB, renH, numB, subHp, fwd, bk, bwd, nones, keyOK, noSl, flatBs, List.contains, List.elem, Option.isSome_some, List.nodup_nil, List.nodup_cons, List.not_mem_nil, Option.getD_some, lk_impl_Corners_h_impl_ValidHalves, sp_impl_ValidHalves, lh_impl_Corners_h_impl_ValidHalves, lh_impl_Corners_h_impl_corners_h, hs_impl_corners_h, hk, hz, e1]
  exact ⟨⟨hs, (List.take_of_length_le (by omega)).symm⟩, fun x => if x = 0 then 2112 else x, by simp; omega⟩
def hs_impl_Corners_h : HSpec := ⟨[true], fun xs hp => match xs, hp with | [.sl 3 es], [] => (isTs es) ∧ ((fun (l : List Tr) => okHs l = true) (toTs es)) | _, _ => False, fun xs hp => match xs, hp with | [.sl 3 es], [] => (fun (l : List Tr) => (.ref 0 0 (cornP l).length false : IV)) (toTs es) | _, _ => .junk, fun xs hp => match xs, hp with | [.sl 3 es], [] => (fun (l : List Tr) => ([(0, .arr 4 55 (encQs (cornP l)))] : List (Nat × IBlk))) (toTs es) | _, _ => []⟩
theorem hk_impl_Corners_h : ∀ args hp, hs_impl_Corners_h.pre args hp → HCall Try.prog 39 args (sm hp) (hs_impl_Corners_h.val args hp) (sm (hs_impl_Corners_h.hval args hp)) := by
  intro args hp h
  unfold hs_impl_Corners_h at h ⊢; simp only at h ⊢; split at h
  · obtain ⟨h1, h2⟩ := h; obtain ⟨l, rfl⟩ := isT_ex h1; rw [toTs_enc] at *; exact c_impl_Corners_h l h2
  · exact h.elim
theorem en_impl_Corners_h : Enters Try.prog 39 := enters_of Try.func39 (by kernel_rfl) rfl

def g_impl_Corners_e0 : List (Nat × PSpec) := [(100, sp_impl_ValidHalves), (104, sp_impl_corners_v)]
theorem gok_impl_Corners_e0 : GOK Try.prog g_impl_Corners_e0 := gok_cons gk_impl_ValidHalves en_impl_ValidHalves (gok_consO gk_impl_corners_v en_impl_corners_v (gok0))
theorem lk_impl_Corners_e0_impl_ValidHalves : lkG g_impl_Corners_e0 100 = sp_impl_ValidHalves := rfl
theorem lk_impl_Corners_e0_impl_corners_v : lkG g_impl_Corners_e0 104 = sp_impl_corners_v := rfl
def h_impl_Corners_e0 : List (Nat × HSpec) := []
theorem hok_impl_Corners_e0 : HOK Try.prog h_impl_Corners_e0 := hok0
theorem c_impl_Corners_e0 (l : List Tr) (hk : okHs l = false) : ICall Try.prog 39 [.sl 3 (encTs l)] (.sl 4 []) := by
  refine icall_V (G := g_impl_Corners_e0) (H := []) [] tabOK mixed gok_impl_Corners_e0 hok_impl_Corners_e0 Try.func39 rfl Try.ntmps39 Try.results39 rfl (by kernel_rfl) fun F hN hlen => ?_
  simp only [V_seq, V_ret, V_region, V_cond, brW_true, W_nil, W_cons, effOp2, KN_seq, KXr_nil, KXr_seq, QE, asB, effOp, effPure, effCall, giveUp, hasAll, pureV, ofC, strip, lkT, lkH, ISt.app, opI, gO, gB, allB, gval, wrapG, dstOK, setD, lendV, lendP, lent, lentP, idsV, idsL, lkHS, flat, clean, callArgs, callFn, allLent, enumT, Gives, Ideal.Fin, conv, conv0, Op.operands, reduceIte, reduceCtorEq, cond_true, Bool.or_false, Bool.not_true, Bool.not_false, Nat.reduceLT, Nat.reduceEqDiff, and_self, implies_true, List.map_cons, List.map_nil, List.nil_append, List.cons_append, List.append_nil, ex_clo, or_self, hN, isTs_enc, toTs_enc, lk_impl_Corners_e0_impl_ValidHalves, sp_impl_ValidHalves, hk]
def sp_impl_Corners_e0 : PSpec := ⟨fun xs => match xs with | [.sl 3 les] => isTs les ∧ ((fun (l : List Tr) => okHs l = false) (toTs les)) | _ => False, fun xs => match xs with | [.sl _ les] => (fun (l : List Tr) => .sl 4 []) (toTs les) | _ => .junk, false⟩
theorem gk_impl_Corners_e0 : ∀ args, sp_impl_Corners_e0.pre args → ICall Try.prog 39 args (sp_impl_Corners_e0.val args) := by
  intro args h
  unfold sp_impl_Corners_e0 at h ⊢; simp only at h ⊢; split at h
  · obtain ⟨h0, h1⟩ := h
    obtain ⟨l0, rfl⟩ := isT_ex h0
    simp only [toTs_enc] at *
    exact c_impl_Corners_e0 _ h1
  · exact h.elim
theorem en_impl_Corners_e0 : Enters Try.prog 39 := enters_of Try.func39 (by kernel_rfl) rfl

def g_impl_Corners_e : List (Nat × PSpec) := [(100, sp_impl_ValidHalves)]
theorem gok_impl_Corners_e : GOK Try.prog g_impl_Corners_e := gok_cons gk_impl_ValidHalves en_impl_ValidHalves (gok0)
theorem lk_impl_Corners_e_impl_ValidHalves : lkG g_impl_Corners_e 100 = sp_impl_ValidHalves := rfl
def h_impl_Corners_e : List (Nat × HSpec) := []
theorem hok_impl_Corners_e : HOK Try.prog h_impl_Corners_e := hok0
theorem c_impl_Corners_e (l : List Tr) (hk : okHs l = false) : ICallF Try.prog 39 [.sl 3 (encTs l)] (.sl 4 []) := by
  exact icallF_nil (c_impl_Corners_e0 l hk)
def sp_impl_Corners_e : PSpec := ⟨fun xs => match xs with | [.sl 3 les] => isTs les ∧ ((fun (l : List Tr) => okHs l = false) (toTs les)) | _ => False, fun xs => match xs with | [.sl _ les] => (fun (l : List Tr) => .sl 4 []) (toTs les) | _ => .junk, true⟩
theorem gk_impl_Corners_e : ∀ args, sp_impl_Corners_e.pre args → ICallF Try.prog 39 args (sp_impl_Corners_e.val args) ∧ ∀ id, (sp_impl_Corners_e.val args).ment id = false := by
  intro args h
  unfold sp_impl_Corners_e at h ⊢; simp only at h ⊢; split at h
  · obtain ⟨h0, h1⟩ := h
    obtain ⟨l0, rfl⟩ := isT_ex h0
    simp only [toTs_enc] at *
    exact ⟨c_impl_Corners_e _ h1, fun id => rfl⟩
  · exact h.elim
theorem en_impl_Corners_e : Enters Try.prog 39 := enters_of Try.func39 (by kernel_rfl) rfl

/-- The corners of valid half-planes. -/
def cornV (l : List Tr) : List Qd := if okHs l then cornP l else []
def g_impl_Corners : List (Nat × PSpec) := [(100, sp_impl_ValidHalves), (104, sp_impl_corners_v)]
theorem gok_impl_Corners : GOK Try.prog g_impl_Corners := gok_cons gk_impl_ValidHalves en_impl_ValidHalves (gok_consO gk_impl_corners_v en_impl_corners_v (gok0))
theorem lk_impl_Corners_impl_ValidHalves : lkG g_impl_Corners 100 = sp_impl_ValidHalves := rfl
theorem lk_impl_Corners_impl_corners_v : lkG g_impl_Corners 104 = sp_impl_corners_v := rfl
def h_impl_Corners : List (Nat × HSpec) := []
theorem hok_impl_Corners : HOK Try.prog h_impl_Corners := hok0
theorem c_impl_Corners (l : List Tr)  : ICall Try.prog 39 [.sl 3 (encTs l)] (.sl 4 (encQs (cornV l))) := by
  refine icall_V (G := g_impl_Corners) (H := []) [] tabOK mixed gok_impl_Corners hok_impl_Corners Try.func39 rfl Try.ntmps39 Try.results39 rfl (by kernel_rfl) fun F hN hlen => ?_
  cases hk : okHs l with
  | true =>
    have hv : cornV l = cornP l := by rw [cornV, hk]; rfl
    have hs := okHs_sm hk
    have hz : l.length ≤ 100 := by have := okHs_len hk; omega
    simp only [V_seq, V_skip, V_ret, V_region, V_cond, brW_false, W_nil, W_cons, effOp2, KN_seq, KXr_nil, QE, asB, effOp, effPure, effCall, giveUp, hasAll, pureV, ofC, strip, lkT, lkH, ISt.app, opI, gO, gB, allB, gval, wrapG, dstOK, setD, lendV, lendP, lent, lentP, idsV, idsL, lkHS, flat, clean, callArgs, callFn, allLent, enumT, Gives, Ideal.Fin, conv, conv0, Op.operands, reduceIte, reduceCtorEq, cond_true, Bool.or_false, Bool.or_true, Bool.not_true, Nat.reduceLT, Nat.reduceEqDiff, true_and, and_true, and_self, implies_true, forall_const, List.map_cons, List.map_nil, List.nil_append, List.cons_append, List.append_nil, ex_clo, or_self, hN, isTs_enc, toTs_enc, lk_impl_Corners_impl_ValidHalves, lk_impl_Corners_impl_corners_v, sp_impl_ValidHalves, sp_impl_corners_v, hk, hz, hv]
    exact hs
  | false =>
    have hv : cornV l = [] := by rw [cornV, hk]; rfl
    have e0 : encQs [] = [] := rfl
    simp only [V_seq, V_ret, V_region, V_cond, brW_true, W_nil, W_cons, effOp2, KN_seq, KXr_nil, KXr_seq, QE, asB, effOp, effPure, effCall, giveUp, hasAll, pureV, ofC, strip, lkT, lkH, ISt.app, opI, gO, gB, allB, gval, wrapG, dstOK, setD, lendV, lendP, lent, lentP, idsV, idsL, lkHS, flat, clean, callArgs, callFn, allLent, enumT, Gives, Ideal.Fin, conv, conv0, Op.operands, reduceIte, reduceCtorEq, cond_true, Bool.or_false, Bool.not_true, Bool.not_false, Nat.reduceLT, Nat.reduceEqDiff, and_self, implies_true, List.map_cons, List.map_nil, List.nil_append, List.cons_append, List.append_nil, ex_clo, or_self, hN, isTs_enc, toTs_enc, lk_impl_Corners_impl_ValidHalves, sp_impl_ValidHalves, hk, hv, e0]
def sp_impl_Corners : PSpec := ⟨fun xs => match xs with | [.sl 3 les] => isTs les | _ => False, fun xs => match xs with | [.sl _ les] => (fun (l : List Tr) => .sl 4 (encQs (cornV l))) (toTs les) | _ => .junk, false⟩
theorem gk_impl_Corners : ∀ args, sp_impl_Corners.pre args → ICall Try.prog 39 args (sp_impl_Corners.val args) := by
  intro args h
  unfold sp_impl_Corners at h ⊢; simp only at h ⊢; split at h
  · have h0 := h
    obtain ⟨l0, rfl⟩ := isT_ex h0
    simp only [toTs_enc] at *
    exact c_impl_Corners _ 
  · exact h.elim
theorem en_impl_Corners : Enters Try.prog 39 := enters_of Try.func39 (by kernel_rfl) rfl

def g_spec_Corners : List (Nat × PSpec) := [(95, sp_spec_validHalves), (97, sp_spec_corners)]
theorem gok_spec_Corners : GOK Try.prog g_spec_Corners := gok_cons gk_spec_validHalves en_spec_validHalves (gok_cons gk_spec_corners en_spec_corners (gok0))
theorem lk_spec_Corners_spec_validHalves : lkG g_spec_Corners 95 = sp_spec_validHalves := rfl
theorem lk_spec_Corners_spec_corners : lkG g_spec_Corners 97 = sp_spec_corners := rfl
def h_spec_Corners : List (Nat × HSpec) := []
theorem hok_spec_Corners : HOK Try.prog h_spec_Corners := hok0
theorem c_spec_Corners (l : List Tr)  : ICall Try.prog 57 [.sl 3 (encTs l)] (.sl 4 (encQs (cornV l))) := by
  refine icall_V (G := g_spec_Corners) (H := []) [] tabOK mixed gok_spec_Corners hok_spec_Corners Try.func57 rfl Try.ntmps57 Try.results57 rfl (by kernel_rfl) fun F hN hlen => ?_
  cases hk : okHs l with
  | true =>
    have hv : cornV l = cornP l := by rw [cornV, hk]; rfl
    have hs := okHs_sm hk
    have hz : l.length ≤ 100 := by have := okHs_len hk; omega
    simp only [V_seq, V_skip, V_ret, V_region, V_cond, brW_false, W_nil, W_cons, effOp2, KN_seq, KXr_nil, QE, asB, effOp, effPure, effCall, giveUp, hasAll, pureV, ofC, strip, lkT, lkH, ISt.app, opI, gO, gB, allB, gval, wrapG, dstOK, setD, lendV, lendP, lent, lentP, idsV, idsL, lkHS, flat, clean, callArgs, callFn, allLent, enumT, Gives, Ideal.Fin, conv, conv0, Op.operands, reduceIte, reduceCtorEq, cond_true, cond_false, Bool.or_false, Bool.not_true, Nat.reduceLT, Nat.reduceEqDiff, true_and, and_true, and_self, implies_true, forall_const, List.map_cons, List.map_nil, List.nil_append, List.cons_append, List.append_nil, ex_clo, or_true, or_self, Bool.false_eq_true, hN, isTs_enc, toTs_enc, lk_spec_Corners_spec_validHalves, lk_spec_Corners_spec_corners, sp_spec_validHalves, sp_spec_corners, hk, hz, hv]
    exact hs
  | false =>
    have hv : cornV l = [] := by rw [cornV, hk]; rfl
    have e0 : encQs [] = [] := rfl
    simp only [V_seq, V_ret, V_region, V_cond, brW_true, W_nil, W_cons, effOp2, KN_seq, KXr_nil, KXr_seq, QE, asB, effOp, effPure, effCall, giveUp, hasAll, pureV, ofC, strip, lkT, lkH, ISt.app, opI, gO, gB, allB, gval, wrapG, dstOK, setD, lendV, lendP, lent, lentP, idsV, idsL, lkHS, flat, clean, callArgs, callFn, allLent, enumT, Gives, Ideal.Fin, conv, conv0, Op.operands, reduceIte, reduceCtorEq, cond_true, Bool.or_false, Bool.not_true, Bool.not_false, Nat.reduceLT, Nat.reduceEqDiff, and_self, implies_true, List.map_cons, List.map_nil, List.nil_append, List.cons_append, List.append_nil, ex_clo, or_self, hN, isTs_enc, toTs_enc, lk_spec_Corners_spec_validHalves, sp_spec_validHalves, hk, hv, e0]
def sp_spec_Corners : PSpec := ⟨fun xs => match xs with | [.sl 3 les] => isTs les | _ => False, fun xs => match xs with | [.sl _ les] => (fun (l : List Tr) => .sl 4 (encQs (cornV l))) (toTs les) | _ => .junk, false⟩
theorem gk_spec_Corners : ∀ args, sp_spec_Corners.pre args → ICall Try.prog 57 args (sp_spec_Corners.val args) := by
  intro args h
  unfold sp_spec_Corners at h ⊢; simp only at h ⊢; split at h
  · have h0 := h
    obtain ⟨l0, rfl⟩ := isT_ex h0
    simp only [toTs_enc] at *
    exact c_spec_Corners _ 
  · exact h.elim
theorem en_spec_Corners : Enters Try.prog 57 := enters_of Try.func57 (by kernel_rfl) rfl


def g_e_excor_a : List (Nat × PSpec) := [(31, sp_laws_szHalfPlaneS), (57, sp_spec_Corners), (39, sp_impl_Corners_e), (35, sp_laws_eqHalfPlaneS), (19, sp_laws_eqRatPointS), (23, sp_laws_heldRatPointS)]
theorem gok_e_excor_a : GOK Try.prog g_e_excor_a := gok_cons gk_laws_szHalfPlaneS en_laws_szHalfPlaneS (gok_cons gk_spec_Corners en_spec_Corners (gok_consO gk_impl_Corners_e en_impl_Corners_e (gok_cons gk_laws_eqHalfPlaneS en_laws_eqHalfPlaneS (gok_cons gk_laws_eqRatPointS en_laws_eqRatPointS (gok_cons gk_laws_heldRatPointS en_laws_heldRatPointS (gok0))))))
theorem lk_e_excor_a_laws_szHalfPlaneS : lkG g_e_excor_a 31 = sp_laws_szHalfPlaneS := rfl
theorem lk_e_excor_a_spec_Corners : lkG g_e_excor_a 57 = sp_spec_Corners := rfl
theorem lk_e_excor_a_impl_Corners_e : lkG g_e_excor_a 39 = sp_impl_Corners_e := rfl
theorem lk_e_excor_a_laws_eqHalfPlaneS : lkG g_e_excor_a 35 = sp_laws_eqHalfPlaneS := rfl
theorem lk_e_excor_a_laws_eqRatPointS : lkG g_e_excor_a 19 = sp_laws_eqRatPointS := rfl
theorem lk_e_excor_a_laws_heldRatPointS : lkG g_e_excor_a 23 = sp_laws_heldRatPointS := rfl
def h_e_excor_a : List (Nat × HSpec) := [(33, hs_laws_toHalfPlaneS), (58, hs_laws_markHalfPlaneS), (22, hs_laws_markRatPointS_or)]
theorem hok_e_excor_a : HOK Try.prog h_e_excor_a := hok_cons hk_laws_toHalfPlaneS en_laws_toHalfPlaneS (hok_cons hk_laws_markHalfPlaneS en_laws_markHalfPlaneS (hok_cons hk_laws_markRatPointS_or en_laws_markRatPointS_or (hok0)))
theorem lh_e_excor_a_laws_szHalfPlaneS : lkHS h_e_excor_a 31 = none := rfl
theorem lh_e_excor_a_spec_Corners : lkHS h_e_excor_a 57 = none := rfl
theorem lh_e_excor_a_impl_Corners_e : lkHS h_e_excor_a 39 = none := rfl
theorem lh_e_excor_a_laws_eqHalfPlaneS : lkHS h_e_excor_a 35 = none := rfl
theorem lh_e_excor_a_laws_eqRatPointS : lkHS h_e_excor_a 19 = none := rfl
theorem lh_e_excor_a_laws_heldRatPointS : lkHS h_e_excor_a 23 = none := rfl
theorem lh_e_excor_a_laws_toHalfPlaneS : lkHS h_e_excor_a 33 = some hs_laws_toHalfPlaneS := rfl
theorem lh_e_excor_a_laws_markHalfPlaneS : lkHS h_e_excor_a 58 = some hs_laws_markHalfPlaneS := rfl
theorem lh_e_excor_a_laws_markRatPointS_or : lkHS h_e_excor_a 22 = some hs_laws_markRatPointS_or := rfl
def g_e_excor_b : List (Nat × PSpec) := [(31, sp_laws_szHalfPlaneS), (57, sp_spec_Corners), (35, sp_laws_eqHalfPlaneS), (19, sp_laws_eqRatPointS), (23, sp_laws_heldRatPointS)]
theorem gok_e_excor_b : GOK Try.prog g_e_excor_b := gok_cons gk_laws_szHalfPlaneS en_laws_szHalfPlaneS (gok_cons gk_spec_Corners en_spec_Corners (gok_cons gk_laws_eqHalfPlaneS en_laws_eqHalfPlaneS (gok_cons gk_laws_eqRatPointS en_laws_eqRatPointS (gok_cons gk_laws_heldRatPointS en_laws_heldRatPointS (gok0)))))
theorem lk_e_excor_b_laws_szHalfPlaneS : lkG g_e_excor_b 31 = sp_laws_szHalfPlaneS := rfl
theorem lk_e_excor_b_spec_Corners : lkG g_e_excor_b 57 = sp_spec_Corners := rfl
theorem lk_e_excor_b_laws_eqHalfPlaneS : lkG g_e_excor_b 35 = sp_laws_eqHalfPlaneS := rfl
theorem lk_e_excor_b_laws_eqRatPointS : lkG g_e_excor_b 19 = sp_laws_eqRatPointS := rfl
theorem lk_e_excor_b_laws_heldRatPointS : lkG g_e_excor_b 23 = sp_laws_heldRatPointS := rfl
def h_e_excor_b : List (Nat × HSpec) := [(33, hs_laws_toHalfPlaneS), (39, hs_impl_Corners_h), (58, hs_laws_markHalfPlaneS), (22, hs_laws_markRatPointS)]
theorem hok_e_excor_b : HOK Try.prog h_e_excor_b := hok_cons hk_laws_toHalfPlaneS en_laws_toHalfPlaneS (hok_cons hk_impl_Corners_h en_impl_Corners_h (hok_cons hk_laws_markHalfPlaneS en_laws_markHalfPlaneS (hok_cons hk_laws_markRatPointS en_laws_markRatPointS (hok0))))
theorem lh_e_excor_b_laws_szHalfPlaneS : lkHS h_e_excor_b 31 = none := rfl
theorem lh_e_excor_b_spec_Corners : lkHS h_e_excor_b 57 = none := rfl
theorem lh_e_excor_b_laws_eqHalfPlaneS : lkHS h_e_excor_b 35 = none := rfl
theorem lh_e_excor_b_laws_eqRatPointS : lkHS h_e_excor_b 19 = none := rfl
theorem lh_e_excor_b_laws_heldRatPointS : lkHS h_e_excor_b 23 = none := rfl
theorem lh_e_excor_b_laws_toHalfPlaneS : lkHS h_e_excor_b 33 = some hs_laws_toHalfPlaneS := rfl
theorem lh_e_excor_b_impl_Corners_h : lkHS h_e_excor_b 39 = some hs_impl_Corners_h := rfl
theorem lh_e_excor_b_laws_markHalfPlaneS : lkHS h_e_excor_b 58 = some hs_laws_markHalfPlaneS := rfl
theorem lh_e_excor_b_laws_markRatPointS : lkHS h_e_excor_b 22 = some hs_laws_markRatPointS := rfl
def g_laws_FnExactCorners : List (Nat × PSpec) := [(31, sp_laws_szHalfPlaneS), (57, sp_spec_Corners), (39, sp_impl_Corners), (19, sp_laws_eqRatPointS), (35, sp_laws_eqHalfPlaneS), (23, sp_laws_heldRatPointS)]
theorem gok_laws_FnExactCorners : GOK Try.prog g_laws_FnExactCorners := gok_cons gk_laws_szHalfPlaneS en_laws_szHalfPlaneS (gok_cons gk_spec_Corners en_spec_Corners (gok_cons gk_impl_Corners en_impl_Corners (gok_cons gk_laws_eqRatPointS en_laws_eqRatPointS (gok_cons gk_laws_eqHalfPlaneS en_laws_eqHalfPlaneS (gok_cons gk_laws_heldRatPointS en_laws_heldRatPointS (gok0))))))
theorem lk_laws_FnExactCorners_laws_szHalfPlaneS : lkG g_laws_FnExactCorners 31 = sp_laws_szHalfPlaneS := rfl
theorem lk_laws_FnExactCorners_spec_Corners : lkG g_laws_FnExactCorners 57 = sp_spec_Corners := rfl
theorem lk_laws_FnExactCorners_impl_Corners : lkG g_laws_FnExactCorners 39 = sp_impl_Corners := rfl
theorem lk_laws_FnExactCorners_laws_eqRatPointS : lkG g_laws_FnExactCorners 19 = sp_laws_eqRatPointS := rfl
theorem lk_laws_FnExactCorners_laws_eqHalfPlaneS : lkG g_laws_FnExactCorners 35 = sp_laws_eqHalfPlaneS := rfl
theorem lk_laws_FnExactCorners_laws_heldRatPointS : lkG g_laws_FnExactCorners 23 = sp_laws_heldRatPointS := rfl
def h_laws_FnExactCorners : List (Nat × HSpec) := [(33, hs_laws_toHalfPlaneS), (58, hs_laws_markHalfPlaneS), (22, hs_laws_markRatPointS)]
theorem hok_laws_FnExactCorners : HOK Try.prog h_laws_FnExactCorners := hok_cons hk_laws_toHalfPlaneS en_laws_toHalfPlaneS (hok_cons hk_laws_markHalfPlaneS en_laws_markHalfPlaneS (hok_cons hk_laws_markRatPointS en_laws_markRatPointS (hok0)))
theorem lh_laws_FnExactCorners_laws_szHalfPlaneS : lkHS h_laws_FnExactCorners 31 = none := rfl
theorem lh_laws_FnExactCorners_spec_Corners : lkHS h_laws_FnExactCorners 57 = none := rfl
theorem lh_laws_FnExactCorners_impl_Corners : lkHS h_laws_FnExactCorners 39 = none := rfl
theorem lh_laws_FnExactCorners_laws_eqRatPointS : lkHS h_laws_FnExactCorners 19 = none := rfl
theorem lh_laws_FnExactCorners_laws_eqHalfPlaneS : lkHS h_laws_FnExactCorners 35 = none := rfl
theorem lh_laws_FnExactCorners_laws_heldRatPointS : lkHS h_laws_FnExactCorners 23 = none := rfl
theorem lh_laws_FnExactCorners_laws_toHalfPlaneS : lkHS h_laws_FnExactCorners 33 = some hs_laws_toHalfPlaneS := rfl
theorem lh_laws_FnExactCorners_laws_markHalfPlaneS : lkHS h_laws_FnExactCorners 58 = some hs_laws_markHalfPlaneS := rfl
theorem lh_laws_FnExactCorners_laws_markRatPointS : lkHS h_laws_FnExactCorners 22 = some hs_laws_markRatPointS := rfl
theorem c_laws_FnExactCorners (l : List Tr)  : ICall Try.prog 11 [.sl 3 (encTs l)] (.bool true) := by
  have hs : ∀ x : List Tr, (x == x) = true := fun x => by simp
  have hs2 : ∀ x : List Qd, (x == x) = true := fun x => by simp
  have hn : ∀ x : Int, (x != x) = false := fun x => by simp
  cases hc : okHs l with
  | true =>
    have hcv : cornV l = cornP l := by rw [cornV, hc]; rfl
    refine icall_V (G := g_e_excor_b) (H := h_e_excor_b) [] tabOK mixed gok_e_excor_b hok_e_excor_b Try.func11 rfl Try.ntmps11 Try.results11 rfl (by kernel_rfl) fun F hN hlen => ?_
    have el := len_encTs l
    have hl := okHs_len hc
    have hh := cornP_len (l := l) (by omega)
    have c : l.length ≤ 1048576 := by omega
    have c2 : l.length ≤ 2000000 := by omega
    have c3 : (cornP l).length ≤ 2000000 := by omega
    have hv : szHalfPlaneV l 1048576 = 1048576 - (l.length : Int) := if_neg (by omega)
    have d1 : decide (1048576 - (l.length : Int) < 0) = false := by simp only [decide_eq_false_iff_not]; omega
    have d2 : decide (1 + 3 * (l.length : Int) < 0) = false := by simp only [decide_eq_false_iff_not]; omega
    have d3 : decide (1 + 4 * ((cornP l).length : Int) < 0) = false := by simp only [decide_eq_false_iff_not]; omega
    have eh := len_encQs (cornP l)
    have em1 := len_encTs (marksT l.length 1)
    have em2 := len_encQs (marksQ (cornP l).length 1)
    rw [marksT_len] at em1
    rw [marksQ_len] at em2
    have ml := marksT_len l.length 1
    have ml2 := marksQ_len (cornP l).length 1
    have hd := heldQ_marks (cornP l).length 1
    have tk : (encQs (marksQ (cornP l).length 1)).take (cornP l).length = encQs (marksQ (cornP l).length 1) := List.take_of_length_le (by omega)
    have tk3 : (encQs (cornP l)).take (cornP l).length = encQs (cornP l) := List.take_of_length_le (by omega)
    have tk1 : (encTs (marksT l.length 1)).take l.length = encTs (marksT l.length 1) := List.take_of_length_le (by omega)
    simp only [V_seq, V_skip, V_ret, V_region, V_cond, brW_false, W_nil, W_cons, effOp2, KN_seq, KXr_nil, QE, asB, effOp, effPure, effPick, effCall, giveUp, hasAll, Option.isSome_some, skipE, pureV, pickV, binV, ofC, strip, lkT, lkH, ISt.app, opI, gO, gB, allB, gval, wrapG, dstOK, setD, mentTm, mentHp, IV.ment, lendV, lendP, lent, lentP, idsV, idsL, flat, clean, callArgs, callFn, allLent, enumT, Gives, Ideal.Fin, conv, conv0, IBlk.shape, Op.operands, reduceIte, reduceCtorEq, cond_true, cond_false, Bool.or_false, Bool.or_true, Bool.and_true, Bool.not_true, Bool.not_false, Nat.reduceAdd, Nat.reduceSub, Nat.reduceMul, Nat.reduceLT, Nat.reduceLeDiff, Nat.reduceEqDiff, Nat.reduceBEq, Nat.add_zero, Nat.zero_add, not_false_eq_true, beq_self_eq_true, true_and, and_true, and_false, and_self, false_implies, implies_true, forall_const, List.map_cons, List.map_nil, List.nil_append, List.cons_append, List.append_nil, List.all_cons, List.all_nil, Option.map_some, Option.map_none, Option.bind_some, List.getElem?_cons_zero, List.getElem?_cons_succ, List.getD_cons_zero, List.drop_zero, ex_clo, or_true, or_self, Bool.true_eq_false, Bool.false_eq_true, hN, isTs_enc, toTs_enc, isQs_enc, toQs_enc, SLe0, convTm, convHp, convB, sm, effH, mkHC0, mkHC1, lendM, lentM, lentI, allHere, addIds, idsB, flatIds, reach, posn, renV, renL, renB, renH, numB, subHp, fwd, bk, bwd, nones, keyOK, noSl, flatBs, List.contains, List.elem, Option.isSome_some, List.nodup_nil, List.nodup_cons, List.not_mem_nil, Option.getD_some, lk_e_excor_b_laws_szHalfPlaneS, lk_e_excor_b_spec_Corners, lk_e_excor_b_laws_eqHalfPlaneS, lk_e_excor_b_laws_eqRatPointS, lk_e_excor_b_laws_heldRatPointS, sp_laws_szHalfPlaneS, sp_spec_Corners, sp_laws_eqHalfPlaneS, sp_laws_eqRatPointS, sp_laws_heldRatPointS, lh_e_excor_b_laws_szHalfPlaneS, lh_e_excor_b_spec_Corners, lh_e_excor_b_laws_eqHalfPlaneS, lh_e_excor_b_laws_eqRatPointS, lh_e_excor_b_laws_heldRatPointS, lh_e_excor_b_laws_toHalfPlaneS, lh_e_excor_b_impl_Corners_h, lh_e_excor_b_laws_markHalfPlaneS, lh_e_excor_b_laws_markRatPointS, hs_laws_toHalfPlaneS, hs_impl_Corners_h, hs_laws_markHalfPlaneS, hs_laws_markRatPointS, el, hv, d1, d2, d3, c, c2, c3, hc, hcv, take_encTs, hn, eh, em1, em2, ml2, hd, tk, tk1, tk3, noSl_encQs, noSl_encTs]
    omega
  | false =>
    have hcv : cornV l = [] := by rw [cornV, hc]; rfl
    refine icall_V (G := g_e_excor_a) (H := h_e_excor_a) [] tabOK mixed gok_e_excor_a hok_e_excor_a Try.func11 rfl Try.ntmps11 Try.results11 rfl (by kernel_rfl) fun F hN hlen => ?_
    have hl := hlen 0 3 _ rfl
    have el := len_encTs l
    rw [el] at hl
    by_cases c : l.length ≤ 1048576
    · have hv : szHalfPlaneV l 1048576 = 1048576 - (l.length : Int) := if_neg (by omega)
      have c2 : l.length ≤ 2000000 := by omega
      have d1 : decide (1048576 - (l.length : Int) < 0) = false := by simp only [decide_eq_false_iff_not]; omega
      have d2 : decide (1 + 3 * (l.length : Int) < 0) = false := by simp only [decide_eq_false_iff_not]; omega
      have d3 : decide ((1 : Int) < 0) = false := by decide
      have em1 := len_encTs (marksT l.length 1)
      rw [marksT_len] at em1
      have ml := marksT_len l.length 1
      have hd : heldQ [] 1 = 1 := rfl
      have e0 : encQs [] = [] := rfl
      have tk1 : (encTs (marksT l.length 1)).take l.length = encTs (marksT l.length 1) := List.take_of_length_le (by omega)
      simp only [V_seq, V_skip, V_ret, V_region, V_cond, brW_false, W_nil, W_cons, effOp2, KN_seq, KXr_nil, QE, asB, effOp, effPure, effPick, effCall, giveUp, hasAll, Option.isSome_some, skipE, pureV, pickV, binV, ofC, strip, lkT, lkH, ISt.app, opI, gO, gB, allB, gval, wrapG, dstOK, setD, mentTm, mentHp, IV.ment, lendV, lendP, lent, lentP, idsV, idsL, flat, clean, callArgs, callFn, allLent, enumT, Gives, Ideal.Fin, conv, conv0, IBlk.shape, Op.operands, reduceIte, reduceCtorEq, cond_true, cond_false, Bool.or_false, Bool.or_true, Bool.and_true, Bool.not_true, Bool.not_false, Nat.reduceAdd, Nat.reduceSub, Nat.reduceMul, Nat.reduceLT, Nat.reduceLeDiff, Nat.reduceEqDiff, Nat.reduceBEq, Nat.add_zero, Nat.zero_add, not_false_eq_true, beq_self_eq_true, true_and, and_true, and_false, and_self, implies_true, forall_const, List.map_cons, List.map_nil, List.nil_append, List.cons_append, List.append_nil, List.all_nil, Option.map_some, Option.map_none, Option.bind_some, List.getElem?_cons_zero, List.getElem?_cons_succ, List.getD_cons_zero, List.length_nil, List.drop_zero, ex_clo, true_or, or_true, or_self, Bool.true_eq_false, Bool.false_eq_true, hN, isTs_enc, toTs_enc, isQs_nil, toQs_nil, SLe0, convTm, convHp, convB, sm, effH, mkHC0, mkHC1, lendM, lentM, lentI, allHere, addIds, idsB, flatIds, reach, posn, renV, renL, renB, renH, numB, subHp, fwd, bk, bwd, nones, keyOK, noSl, flatBs, List.contains, List.elem, Option.isSome_some, List.nodup_nil, List.nodup_cons, List.not_mem_nil, Option.getD_some, lk_e_excor_a_laws_szHalfPlaneS, lk_e_excor_a_spec_Corners, lk_e_excor_a_impl_Corners_e, lk_e_excor_a_laws_eqHalfPlaneS, lk_e_excor_a_laws_eqRatPointS, lk_e_excor_a_laws_heldRatPointS, sp_laws_szHalfPlaneS, sp_spec_Corners, sp_impl_Corners_e, sp_laws_eqHalfPlaneS, sp_laws_eqRatPointS, sp_laws_heldRatPointS, lh_e_excor_a_laws_szHalfPlaneS, lh_e_excor_a_spec_Corners, lh_e_excor_a_impl_Corners_e, lh_e_excor_a_laws_eqHalfPlaneS, lh_e_excor_a_laws_eqRatPointS, lh_e_excor_a_laws_heldRatPointS, lh_e_excor_a_laws_toHalfPlaneS, lh_e_excor_a_laws_markHalfPlaneS, lh_e_excor_a_laws_markRatPointS_or, hs_laws_toHalfPlaneS, hs_laws_markHalfPlaneS, hs_laws_markRatPointS_or, el, hv, d1, d2, d3, c, c2, take_encTs, hn, em1, hd, hc, hcv, e0, tk1, hs_or, sel_sl, hs_laws_markRatPointS, hs_laws_markRatPointS_n]
      omega
    · have hv : szHalfPlaneV l 1048576 = -1 := if_pos (by omega)
      have d1 : decide ((-1 : Int) < 0) = true := by decide
      simp only [V_seq, V_ret, V_region, V_cond, brW_true, W_nil, W_cons, effOp2, KN_seq, KXr_nil, KXr_seq, QE, asB, effOp, effPure, effCall, giveUp, hasAll, pureV, binV, ofC, strip, lkT, lkH, ISt.app, opI, gO, gB, allB, gval, wrapG, dstOK, setD, lendV, lendP, lent, lentP, idsV, idsL, flat, clean, callArgs, callFn, allLent, enumT, Gives, Ideal.Fin, conv, conv0, Op.operands, reduceIte, reduceCtorEq, cond_true, Bool.or_false, Bool.not_true, Nat.reduceLT, Nat.reduceEqDiff, true_and, and_true, and_self, implies_true, forall_const, List.map_cons, List.map_nil, List.nil_append, List.cons_append, List.append_nil, ex_clo, or_self, hN, isTs_enc, toTs_enc, lk_e_excor_a_laws_szHalfPlaneS, sp_laws_szHalfPlaneS, lh_e_excor_a_laws_szHalfPlaneS, hv, d1]
      exact ⟨by omega, by omega⟩
def sp_laws_FnExactCorners : PSpec := ⟨fun xs => match xs with | [.sl 3 les] => isTs les | _ => False, fun xs => match xs with | [.sl _ les] => (fun (l : List Tr) => .bool true) (toTs les) | _ => .junk, false⟩
theorem gk_laws_FnExactCorners : ∀ args, sp_laws_FnExactCorners.pre args → ICall Try.prog 11 args (sp_laws_FnExactCorners.val args) := by
  intro args h
  unfold sp_laws_FnExactCorners at h ⊢; simp only at h ⊢; split at h
  · have h0 := h
    obtain ⟨l0, rfl⟩ := isT_ex h0
    simp only [toPs_enc] at *
    exact c_laws_FnExactCorners _ 
  · exact h.elim
theorem en_laws_FnExactCorners : Enters Try.prog 11 := enters_of Try.func11 (by kernel_rfl) rfl


theorem hiF_succ (l : List Qd) (i : Nat) : hiF l (i + 1) = if (decide (i = 0) || ltR (hiF l i).2 (qAt l i).2) = true then qAt l i else hiF l i := rfl
theorem hiF_zero (l : List Qd) : hiF l 0 = ((0, 0), (0, 0)) := rfl
theorem hiF_one (l : List Qd) : hiF l 1 = qAt l 0 := rfl
theorem hi_good {l : List Qd} (hg : ∀ q ∈ l, goodQ q) {i : Nat} (h0 : 0 < i) (hi : i ≤ l.length) : goodQ (hiF l i) := hg _ (hi_all hg i h0 hi).1
def posB (n : Nat) : Bool := decide (0 < n)
theorem posB_pos {n : Nat} (h : 0 < n) : posB n = true := by simpa [posB] using h
/-- The highest corner. -/
def highV (l : List Tr) : Qd := hiP (cornV l)
theorem cornV_good (l : List Tr) : ∀ q ∈ cornV l, goodQ q := by
  unfold cornV
  cases h : okHs l with
  | true => exact corn_good (okHs_sm h)
  | false => intro q hq; cases hq
theorem cornV_len (l : List Tr) : (cornV l).length ≤ 100000 := by
  unfold cornV
  cases h : okHs l with
  | true => exact cornP_len (by have := okHs_len h; omega)
  | false => simp
def g_impl_Highest : List (Nat × PSpec) := [(39, sp_impl_Corners), (111, sp_impl_Rat_compare)]
theorem gok_impl_Highest : GOK Try.prog g_impl_Highest := gok_cons gk_impl_Corners en_impl_Corners (gok_cons gk_impl_Rat_compare en_impl_Rat_compare (gok0))
theorem lk_impl_Highest_impl_Corners : lkG g_impl_Highest 39 = sp_impl_Corners := rfl
theorem lk_impl_Highest_impl_Rat_compare : lkG g_impl_Highest 111 = sp_impl_Rat_compare := rfl
def h_impl_Highest : List (Nat × HSpec) := []
theorem hok_impl_Highest : HOK Try.prog h_impl_Highest := hok0
theorem c_impl_Highest (l : List Tr)  : ICall Try.prog 37 [.sl 3 (encTs l)] (.tup [encQ (highV l), .bool (posB (cornV l).length)]) := by
  refine icall_of_hcall (v := .tup [encQ (highV l), .bool (posB (cornV l).length)]) (hp' := []) id ?_ (by simp [SLe0, convTm, convHp, conv, convL, conv0, lkT, clean, encQ]) (by simp [idsV, idsL, encQ])
  refine hcall_V (G := g_impl_Highest) (H := []) [] tabOK mixed gok_impl_Highest hok_impl_Highest Try.func37 rfl Try.ntmps37 Try.results37 rfl (by kernel_rfl) fun F hN hlen => ?_
  have hg := cornV_good l
  have hz := cornV_len l
  have hv : highV l = hiF (cornV l) (cornV l).length := rfl
  obtain ⟨c, hc⟩ : ∃ c, cornV l = c := ⟨_, rfl⟩
  rw [hc] at hg hz hv
  have el := len_encQs c
  simp only [V_seq, V_block, V_region, W_nil, W_cons, effOp2, KN_seq, effOp, effPure, effNew, effAlloc, effCall, giveUp, hasAll, skipE, pureV, lenV, ofC, strip, lkT, lkH, ISt.app, opI, gO, gB, allB, gval, wrapG, dstOK, setD, mentTm, mentHp, IV.ment, IV.mentL, lendV, lendP, lent, lentP, idsV, idsL, lkHS, flat, clean, callArgs, callFn, allLent, enumT, Op.operands, Call.operands, List.append_toArray, reduceIte, reduceCtorEq, cond_true, cond_false, Bool.or_false, Bool.not_true, Nat.reduceLT, Nat.reduceEqDiff, Nat.reduceBEq, ne_eq, not_false_eq_true, true_and, and_self, implies_true, List.map_cons, List.map_nil, List.nil_append, List.cons_append, List.append_nil, ex_clo, or_true, Bool.false_eq_true, tab24, tab55, hN, encQ, isTs_enc, toTs_enc, lk_impl_Highest_impl_Corners, sp_impl_Corners, hc, el]
  refine V_loop (α := Nat) ⟨tabOK, mixed, gok_impl_Highest, hok_impl_Highest⟩ (by kernel_rfl) (fun i => i ≤ c.length) (fun i => ⟨[(11, .num .i64 i), (10, .num .i64 c.length), (9, .sl 4 (encQs c)), (5, .bool (posB i)), (4, .ptr 4 0), (2, .ptr 2 0)], [(4, some (.box 55 [.num .i64 (hiF c i).1.1, .num .i64 (hiF c i).1.2, .num .i64 (hiF c i).2.1, .num .i64 (hiF c i).2.2])), (2, some (.box 55 [.num .i64 0, .num .i64 0, .num .i64 0, .num .i64 0]))]⟩) (fun i => c.length - i) 0 id (Nat.zero_le _) (by simp [SLe, SLe0, convTm, convHp, convB, conv, conv0, convL, lkT, lkH, clean, hiF, posB]) ?_
  intro i hi
  simp only [V_seq, V_region, V_cond, W_nil, W_cons, effOp2, KN_seq, asB, effOp, effPure, pureV, binV, strip, lkT, ISt.app, opI, gO, gB, allB, gval, wrapG, dstOK, setD, Op.operands, reduceIte, Nat.reduceLT, Nat.reduceEqDiff, true_and, and_self, implies_true, List.nil_append, List.cons_append, hN]
  refine brW_some (fun h => ?_) (fun h => ?_)
  · have hi' : i < c.length := by simpa using h
    have g0 := getD_encQs hi'
    have hw := wr_succ hi' (by rw [maxLen_eq]; omega)
    have hst := hiF_succ c i
    have hgi : goodQ (qAt c i) := hg _ (by rw [qAt, List.getD, List.getElem?_eq_getElem hi']; exact List.getElem_mem hi')
    have hgi2 := hgi.2
    have dp : posB (i + 1) = true := posB_pos (by omega)
    rcases Nat.eq_zero_or_pos i with h0 | h0
    · subst h0
      have d0 : posB 0 = false := rfl
      have h1 := hiF_one c
      have dp1 : posB 1 = true := rfl
      simp only [V_seq, V_skip, V_block, V_region, V_cond, brW_true, W_nil, W_cons, effOp2, KN_seq, KN_block, KN_back, asB, effOp, effPure, effPick, effNew, effAlloc, effStore, effCall, giveUp, hasAll, skipE, pureV, pickV, storeV, binV, partV, eltV, loadV, faddrV, iaddrV, over, solid, IV.cells, ofC, strip, lkT, lkH, ISt.app, opI, gO, gB, allB, gval, wrapG, dstOK, setD, mentTm, mentHp, IV.ment, IV.mentL, oneI, lendV, lendP, lent, lentP, idsV, idsL, lkHS, flat, clean, callArgs, callFn, allLent, IBlk.shape, Op.operands, reduceIte, reduceCtorEq, cond_true, Bool.or_false, Bool.or_true, Bool.and_true, Bool.not_false, Nat.reduceAdd, Nat.reduceLT, Nat.reduceLeDiff, Nat.reduceEqDiff, Nat.reduceBEq, Nat.zero_add, ne_eq, not_false_eq_true, true_and, and_true, false_and, and_false, and_self, false_implies, implies_true, forall_const, List.map_cons, List.map_nil, List.nil_append, List.cons_append, List.append_nil, List.all_cons, List.all_nil, Option.map_some, Option.bind_some, List.getElem?_cons_zero, List.getElem?_cons_succ, List.getD_cons_zero, List.getD_cons_succ, List.length_cons, List.length_nil, List.take_succ_cons, List.take_zero, List.take_nil, List.drop_succ_cons, List.drop_zero, List.drop_nil, ex_clo, btf, or_self, Bool.true_eq_false, Bool.false_eq_true, tab24, tab53, tab55, hN, pe, Int.toNat_natCast, lk_impl_Highest_impl_Rat_compare, sp_impl_Rat_compare, el, g0, hw, d0]
      refine ⟨⟨by omega, by omega⟩, 1, id, by simp only []; omega, by simp only []; omega, ?_⟩
      simp only [h1, dp1]
      exact by simp [SLe, SLe0, convTm, convHp, convB, conv, conv0, convL, lkT, lkH, clean]
    · have d0 : posB i = true := posB_pos h0
      have d1 : decide (i = 0) = false := by simp; omega
      have hgb := (hi_good hg h0 hi).2
      rw [d1, Bool.false_or] at hst
      cases hcmp : ltR (hiF c i).2 (qAt c i).2 with
      | true =>
        rw [hcmp, if_pos rfl] at hst
        simp only [V_seq, V_skip, V_block, V_region, V_cond, brW_true, W_nil, W_cons, effOp2, KN_seq, KN_block, KN_back, asB, effOp, effPure, effPick, effNew, effAlloc, effStore, effCall, giveUp, hasAll, skipE, pureV, pickV, storeV, binV, partV, eltV, loadV, faddrV, iaddrV, over, solid, IV.cells, ofC, strip, lkT, lkH, ISt.app, opI, gO, gB, allB, gval, wrapG, dstOK, setD, mentTm, mentHp, IV.ment, IV.mentL, oneI, lendV, lendP, lent, lentP, idsV, idsL, lkHS, flat, clean, callArgs, callFn, allLent, IBlk.shape, Op.operands, reduceIte, reduceCtorEq, cond_true, cond_false, Bool.or_false, Bool.and_true, Bool.not_true, Nat.reduceAdd, Nat.reduceLT, Nat.reduceLeDiff, Nat.reduceEqDiff, Nat.reduceBEq, Nat.zero_add, ne_eq, not_false_eq_true, beq_self_eq_true, true_and, and_true, and_false, and_self, implies_true, forall_const, List.map_cons, List.map_nil, List.nil_append, List.cons_append, List.append_nil, List.all_cons, List.all_nil, Option.map_some, Option.bind_some, List.getElem?_cons_zero, List.getElem?_cons_succ, List.getD_cons_zero, List.getD_cons_succ, List.length_cons, List.length_nil, List.take_succ_cons, List.take_zero, List.take_nil, List.drop_succ_cons, List.drop_zero, List.drop_nil, ex_clo, or_self, Bool.false_eq_true, tab24, tab53, tab55, hN, pe, Int.toNat_natCast, lk_impl_Highest_impl_Rat_compare, sp_impl_Rat_compare, el, g0, hw, d0, hgi2, hgb, cmpR_pos, hcmp]
        refine ⟨⟨by omega, by omega⟩, i + 1, id, by simp only []; omega, by simp only []; omega, ?_⟩
        simp only [hst, dp]
        exact by simp [SLe, SLe0, convTm, convHp, convB, conv, conv0, convL, lkT, lkH, clean]
      | false =>
        rw [hcmp, if_neg (by decide)] at hst
        simp only [V_seq, V_skip, V_block, V_region, V_cond, brW_false, W_nil, W_cons, effOp2, KN_seq, KN_block, KN_back, asB, effOp, effPure, effPick, effNew, effAlloc, effStore, effCall, giveUp, hasAll, skipE, pureV, pickV, storeV, binV, partV, eltV, loadV, faddrV, iaddrV, over, solid, IV.cells, ofC, strip, lkT, lkH, ISt.app, opI, gO, gB, allB, gval, wrapG, dstOK, setD, mentTm, mentHp, IV.ment, IV.mentL, oneI, lendV, lendP, lent, lentP, idsV, idsL, lkHS, flat, clean, callArgs, callFn, allLent, IBlk.shape, Op.operands, reduceIte, reduceCtorEq, cond_true, cond_false, Bool.or_false, Bool.and_true, Bool.not_true, Nat.reduceAdd, Nat.reduceLT, Nat.reduceLeDiff, Nat.reduceEqDiff, Nat.reduceBEq, Nat.zero_add, ne_eq, not_false_eq_true, beq_self_eq_true, true_and, and_true, and_false, and_self, implies_true, forall_const, List.map_cons, List.map_nil, List.nil_append, List.cons_append, List.append_nil, List.all_cons, List.all_nil, Option.map_some, Option.bind_some, List.getElem?_cons_zero, List.getElem?_cons_succ, List.getD_cons_zero, List.getD_cons_succ, List.length_cons, List.length_nil, List.take_succ_cons, List.take_zero, List.take_nil, List.drop_succ_cons, List.drop_zero, List.drop_nil, ex_clo, or_self, Bool.false_eq_true, tab24, tab53, tab55, hN, pe, Int.toNat_natCast, lk_impl_Highest_impl_Rat_compare, sp_impl_Rat_compare, el, g0, hw, d0, hgi2, hgb, cmpR_pos, hcmp]
        refine ⟨⟨by omega, by omega⟩, i + 1, id, by simp only []; omega, by simp only []; omega, ?_⟩
        simp only [hst, dp]
        exact by simp [SLe, SLe0, convTm, convHp, convB, conv, conv0, convL, lkT, lkH, clean]
  · have hie : i = c.length := by simp at h; omega
    subst hie
    rw [← hv]
    simp only [V_seq, V_ret, V_exit, V_region, W_nil, W_cons, effOp2, KN_seq, KXr_nil, KXe_nil, KXe_seq, KXe_block, KXe_back, QE, effOp, effPure, effStore, pureV, storeV, partV, loadV, over, solid, IV.cells, strip, lkT, lkH, ISt.app, opI, gO, gB, allB, gval, wrapG, dstOK, setD, oneI, clean, conv, conv0, convL, Op.operands, reduceIte, cond_true, Bool.and_true, Nat.reduceAdd, Nat.reduceLT, Nat.reduceLeDiff, Nat.reduceEqDiff, Nat.zero_add, true_and, and_false, and_self, implies_true, List.map_nil, List.nil_append, List.cons_append, List.append_nil, List.all_cons, List.all_nil, List.getD_cons_zero, List.length_cons, List.length_nil, List.take_succ_cons, List.take_zero, List.take_nil, List.drop_succ_cons, List.drop_zero, List.drop_nil, tab55, hN, FinH, resA, resL, resV, SLe, SLe0, convTm, convHp]
    exact ⟨id, List.nodup_nil, fun _ _ _ => rfl⟩
def sp_impl_Highest : PSpec := ⟨fun xs => match xs with | [.sl 3 les] => isTs les | _ => False, fun xs => match xs with | [.sl _ les] => (fun (l : List Tr) => .tup [encQ (highV l), .bool (posB (cornV l).length)]) (toTs les) | _ => .junk, false⟩
theorem gk_impl_Highest : ∀ args, sp_impl_Highest.pre args → ICall Try.prog 37 args (sp_impl_Highest.val args) := by
  intro args h
  unfold sp_impl_Highest at h ⊢; simp only at h ⊢; split at h
  · have h0 := h
    obtain ⟨l0, rfl⟩ := isT_ex h0
    simp only [toTs_enc] at *
    exact c_impl_Highest _ 
  · exact h.elim
theorem en_impl_Highest : Enters Try.prog 37 := enters_of Try.func37 (by kernel_rfl) rfl

def g_spec_Highest : List (Nat × PSpec) := [(95, sp_spec_validHalves), (97, sp_spec_corners), (112, sp_spec_compareRats)]
theorem gok_spec_Highest : GOK Try.prog g_spec_Highest := gok_cons gk_spec_validHalves en_spec_validHalves (gok_cons gk_spec_corners en_spec_corners (gok_cons gk_spec_compareRats en_spec_compareRats (gok0)))
theorem lk_spec_Highest_spec_validHalves : lkG g_spec_Highest 95 = sp_spec_validHalves := rfl
theorem lk_spec_Highest_spec_corners : lkG g_spec_Highest 97 = sp_spec_corners := rfl
theorem lk_spec_Highest_spec_compareRats : lkG g_spec_Highest 112 = sp_spec_compareRats := rfl
def h_spec_Highest : List (Nat × HSpec) := []
theorem hok_spec_Highest : HOK Try.prog h_spec_Highest := hok0
theorem c_spec_Highest (l : List Tr)  : ICall Try.prog 38 [.sl 3 (encTs l)] (.tup [encQ (highV l), .bool (posB (cornV l).length)]) := by
  refine icall_of_hcall (v := .tup [encQ (highV l), .bool (posB (cornV l).length)]) (hp' := []) id ?_ (by simp [SLe0, convTm, convHp, conv, convL, conv0, lkT, clean, encQ]) (by simp [idsV, idsL, encQ])
  refine hcall_V (G := g_spec_Highest) (H := []) [(10, [(0, 7), (1, 7), (2, 7), (3, 7), (5, 7)])] tabOK mixed gok_spec_Highest hok_spec_Highest Try.func38 rfl Try.ntmps38 Try.results38 rfl (by kernel_rfl) fun F hN hlen => ?_
  cases hk : okHs l with
  | false =>
    have h0 : highV l = ((0, 0), (0, 0)) := by unfold highV cornV; rw [hk]; rfl
    have h1 : posB (cornV l).length = false := by unfold cornV; rw [hk]; rfl
    simp only [V_seq, V_ret, V_region, V_cond, brW_true, W_nil, W_cons, effOp2, KN_seq, KXr_nil, KXr_seq, QE, asB, effOp, effPure, effNew, effAlloc, effStore, effCall, giveUp, hasAll, skipE, pureV, storeV, partV, loadV, over, solid, buildL, IV.cells, ofC, strip, lkT, lkH, ISt.app, opI, gO, gB, allB, gval, wrapG, dstOK, setD, mentTm, mentHp, IV.ment, oneI, lendV, lendP, lent, lentP, idsV, idsL, lkHS, flat, clean, callArgs, callFn, allLent, enumT, conv, conv0, convL, Op.operands, reduceIte, reduceCtorEq, cond_true, Bool.or_false, Bool.and_true, Bool.not_true, Bool.not_false, Nat.reduceAdd, Nat.reduceLT, Nat.reduceLeDiff, Nat.reduceEqDiff, Nat.zero_add, ne_eq, not_false_eq_true, true_and, and_false, and_self, implies_true, List.map_cons, List.map_nil, List.nil_append, List.cons_append, List.append_nil, List.all_cons, List.all_nil, List.getD_cons_zero, List.length_cons, List.length_nil, List.take_succ_cons, List.take_zero, List.take_nil, List.drop_succ_cons, List.drop_zero, List.drop_nil, ex_clo, or_self, tab55, hN, encQ, isTs_enc, toTs_enc, FinH, resA, resL, resV, SLe, SLe0, convTm, convHp, lk_spec_Highest_spec_validHalves, sp_spec_validHalves, hk, h0, h1]
    exact ⟨id, List.nodup_nil, fun _ _ _ => rfl⟩
  | true =>
    have hcv : cornV l = cornP l := by rw [cornV, hk]; rfl
    have hs := okHs_sm hk
    have hz0 : l.length ≤ 100 := by have := okHs_len hk; omega
    have hg := cornV_good l
    have hz := cornV_len l
    have hv : highV l = hiF (cornV l) (cornV l).length := rfl
    obtain ⟨c, hc⟩ : ∃ c, cornV l = c := ⟨_, rfl⟩
    have hcc : cornP l = c := by rw [← hcv, hc]
    rw [hc] at hg hz hv ⊢
    have el := len_encQs c
    rcases Nat.eq_zero_or_pos c.length with h0 | h0
    · have hn : c = [] := List.length_eq_zero_iff.1 h0
      subst hn
      have h2 : highV l = ((0, 0), (0, 0)) := hv
      have h3 : posB ([] : List Qd).length = false := rfl
      have e0 : encQs [] = [] := rfl
      have d0 : (((0 : Nat) : Int) == 0) = true := rfl
      simp only [V_seq, V_skip, V_ret, V_region, V_cond, brW_true, brW_false, W_nil, W_cons, effOp2, KN_seq, KXr_nil, KXr_seq, QE, asB, effOp, effPure, effNew, effAlloc, effStore, effCall, giveUp, hasAll, skipE, pureV, storeV, binV, partV, loadV, lenV, over, solid, buildL, IV.cells, ofC, strip, lkT, lkH, ISt.app, opI, gO, gB, allB, gval, wrapG, dstOK, setD, mentTm, mentHp, IV.ment, oneI, lendV, lendP, lent, lentP, idsV, idsL, lkHS, flat, clean, callArgs, callFn, allLent, enumT, conv, conv0, convL, Op.operands, Call.operands, List.append_toArray, reduceIte, reduceCtorEq, cond_true, cond_false, Bool.or_false, Bool.and_true, Bool.not_true, Nat.reduceAdd, Nat.reduceLT, Nat.reduceLeDiff, Nat.reduceEqDiff, Nat.zero_add, ne_eq, not_false_eq_true, true_and, and_true, and_false, and_self, implies_true, forall_const, List.map_cons, List.map_nil, List.nil_append, List.cons_append, List.append_nil, List.all_cons, List.all_nil, List.getD_cons_zero, List.length_cons, List.length_nil, List.take_succ_cons, List.take_zero, List.take_nil, List.drop_succ_cons, List.drop_zero, List.drop_nil, ex_clo, or_true, or_self, Bool.false_eq_true, tab24, tab55, hN, encQ, isTs_enc, toTs_enc, FinH, resA, resL, resV, SLe, SLe0, convTm, convHp, lk_spec_Highest_spec_validHalves, lk_spec_Highest_spec_corners, sp_spec_validHalves, sp_spec_corners, hk, hz0, hcc, h2, e0, d0]
      exact ⟨hs, id, ⟨rfl, List.nodup_nil⟩, fun _ _ _ => rfl⟩
    · have d0 : ((c.length : Int) == 0) = false := by rw [beq_eq_false_iff_ne]; omega
      have d1 : posB c.length = true := posB_pos h0
      have g00 := getD_encQs h0
      have g00' : (encQs c).getD (Int.toNat 0) .junk = .agg [.num .i64 (qAt c 0).1.1, .num .i64 (qAt c 0).1.2, .num .i64 (qAt c 0).2.1, .num .i64 (qAt c 0).2.2] := g00
      simp only [V_seq, V_skip, V_block, V_region, V_cond, brW_false, W_nil, W_cons, effOp2, KN_seq, asB, effOp, effPure, effNew, effAlloc, effStore, effCall, giveUp, hasAll, skipE, pureV, storeV, binV, partV, eltV, loadV, iaddrV, lenV, over, solid, IV.cells, ofC, strip, lkT, lkH, ISt.app, opI, gO, gB, allB, gval, wrapG, dstOK, setD, mentTm, mentHp, IV.ment, IV.mentL, oneI, lendV, lendP, lent, lentP, idsV, idsL, lkHS, flat, clean, callArgs, callFn, allLent, enumT, Op.operands, Call.operands, List.append_toArray, reduceIte, reduceCtorEq, cond_true, cond_false, Bool.or_false, Bool.and_true, Bool.not_true, Nat.reduceAdd, Nat.reduceLT, Nat.reduceLeDiff, Nat.reduceEqDiff, Nat.reduceBEq, Nat.zero_add, ne_eq, not_false_eq_true, true_and, and_true, and_false, and_self, implies_true, forall_const, List.map_cons, List.map_nil, List.nil_append, List.cons_append, List.append_nil, List.all_cons, List.all_nil, List.getD_cons_zero, List.length_cons, List.length_nil, List.take_succ_cons, List.take_zero, List.take_nil, List.drop_succ_cons, List.drop_zero, List.drop_nil, ex_clo, or_true, or_self, Bool.false_eq_true, tab24, tab55, hN, encQ, isTs_enc, toTs_enc, lk_spec_Highest_spec_validHalves, lk_spec_Highest_spec_corners, sp_spec_validHalves, sp_spec_corners, hk, hz0, hcc, el, d0, d1, g00']
      refine ⟨hs, ⟨by omega, by omega⟩, ?_⟩
      refine V_loop (α := Nat) ⟨tabOK, mixed, gok_spec_Highest, hok_spec_Highest⟩ (by kernel_rfl) (fun i => 0 < i ∧ i ≤ c.length) (fun i => ⟨[(6, .num .i64 i), (5, .ptr 5 0), (4, .sl 4 (encQs c)), (2, .ptr 2 0)], [(5, some (.box 55 [.num .i64 (hiF c i).1.1, .num .i64 (hiF c i).1.2, .num .i64 (hiF c i).2.1, .num .i64 (hiF c i).2.2])), (2, some (.box 55 [.num .i64 0, .num .i64 0, .num .i64 0, .num .i64 0]))]⟩) (fun i => c.length - i) 1 id ⟨by omega, by omega⟩ (by simp [SLe, SLe0, convTm, convHp, convB, conv, conv0, convL, lkT, lkH, clean, hiF]) ?_
      rintro i ⟨h1, hi⟩
      simp only [V_seq, V_region, V_cond, W_nil, W_cons, effOp2, KN_seq, asB, effOp, effPure, pureV, binV, lenV, strip, lkT, ISt.app, opI, gO, gB, allB, gval, wrapG, dstOK, setD, Op.operands, Call.operands, List.append_toArray, reduceIte, reduceCtorEq, Nat.reduceLT, Nat.reduceEqDiff, ne_eq, not_false_eq_true, true_and, and_self, implies_true, List.nil_append, List.cons_append, tab24, hN, el]
      refine brW_some (fun h => ?_) (fun h => ?_)
      · have hi' : i < c.length := by simpa using h
        have g0 := getD_encQs hi'
        have hw := wr_succ hi' (by rw [maxLen_eq]; omega)
        have hst := hiF_succ c i
        have hgi : goodQ (qAt c i) := hg _ (by rw [qAt, List.getD, List.getElem?_eq_getElem hi']; exact List.getElem_mem hi')
        have hgi2 := hgi.2
        have d1 : decide (i = 0) = false := by simp; omega
        have hgb := (hi_good hg h1 hi).2
        rw [d1, Bool.false_or] at hst
        cases hcmp : ltR (hiF c i).2 (qAt c i).2 with
        | true =>
          rw [hcmp, if_pos rfl] at hst
          simp only [V_seq, V_skip, V_block, V_region, V_draw, V_cond, brW_true, drawW, WS_nil, pairsOf, W_nil, W_cons, effOp2, WI_nil, WI_cons, KN_seq, KN_block, KN_back, dynOK, indB, farB, freshB, heapy, asB, effOp, effPure, effStore, effCall, giveUp, hasAll, pureV, storeV, binV, partV, eltV, loadV, faddrV, iaddrV, over, solid, IV.cells, ofC, strip, lkT, lkH, ISt.app, opI, gO, gB, allB, gval, wrapG, dstOK, setD, mentTm, mentHp, IV.ment, oneI, lendV, lendP, lent, lentP, idsV, idsL, lkHS, flat, clean, callArgs, callFn, allLent, IBlk.shape, Op.operands, Call.operands, List.append_toArray, reduceIte, reduceCtorEq, cond_true, cond_false, Bool.or_false, Bool.and_true, Bool.and_eq_true, Bool.not_true, Bool.not_false, Nat.reduceAdd, Nat.reduceLT, Nat.reduceLeDiff, Nat.reduceEqDiff, Nat.reduceBEq, Nat.zero_add, ne_eq, not_false_eq_true, true_and, and_true, and_false, and_self, implies_true, forall_const, List.map_cons, List.map_nil, List.nil_append, List.cons_append, List.append_nil, List.all_cons, List.all_nil, Option.map_some, List.getD_cons_zero, List.getD_cons_succ, List.length_cons, List.length_nil, List.take_succ_cons, List.take_zero, List.take_nil, List.drop_succ_cons, List.drop_zero, List.drop_nil, ex_clo, or_self, tab24, tab53, tab55, hN, pe, Int.toNat_natCast, lk_spec_Highest_spec_compareRats, sp_spec_compareRats, el, g0, hw, hgi2, hgb, cmpR_pos, hcmp]
          repeat refine And.intro (by first | omega | (simp; done) | (simp; omega)) ?_
          refine ⟨i + 1, id, ⟨by omega, by omega⟩, by simp only []; omega, ?_⟩
          simp only [hst]
          exact by simp [SLe, SLe0, convTm, convHp, convB, conv, conv0, convL, lkT, lkH, clean]
        | false =>
          rw [hcmp, if_neg (by decide)] at hst
          simp only [V_seq, V_skip, V_block, V_region, V_draw, V_cond, brW_false, drawW, WS_nil, pairsOf, W_nil, W_cons, effOp2, WI_nil, WI_cons, KN_seq, KN_block, KN_back, dynOK, indB, farB, freshB, heapy, asB, effOp, effPure, effCall, giveUp, hasAll, pureV, binV, partV, eltV, loadV, faddrV, iaddrV, ofC, strip, lkT, lkH, ISt.app, opI, gO, gB, allB, gval, wrapG, dstOK, setD, mentTm, mentHp, IV.ment, lendV, lendP, lent, lentP, idsV, idsL, lkHS, flat, clean, callArgs, callFn, allLent, IBlk.shape, Op.operands, Call.operands, List.append_toArray, reduceIte, reduceCtorEq, cond_true, cond_false, Bool.or_false, Bool.and_true, Bool.and_eq_true, Bool.not_true, Bool.not_false, Nat.reduceAdd, Nat.reduceLT, Nat.reduceLeDiff, Nat.reduceEqDiff, Nat.reduceBEq, Nat.zero_add, ne_eq, not_false_eq_true, true_and, and_true, and_false, and_self, implies_true, forall_const, List.map_cons, List.map_nil, List.nil_append, List.cons_append, List.append_nil, Option.map_some, List.getD_cons_zero, List.getD_cons_succ, List.length_cons, List.length_nil, List.take_succ_cons, List.take_zero, List.take_nil, List.drop_succ_cons, List.drop_zero, ex_clo, or_self, tab24, tab53, tab55, hN, pe, Int.toNat_natCast, lk_spec_Highest_spec_compareRats, sp_spec_compareRats, el, g0, hw, hgi2, hgb, cmpR_pos, hcmp]
          repeat refine And.intro (by first | omega | (simp; done) | (simp; omega)) ?_
          refine ⟨i + 1, id, ⟨by omega, by omega⟩, by simp only []; omega, ?_⟩
          simp only [hst]
          exact by simp [SLe, SLe0, convTm, convHp, convB, conv, conv0, convL, lkT, lkH, clean]
      · have hie : i = c.length := by simp at h; omega
        subst hie
        rw [← hv]
        simp only [V_seq, V_ret, V_exit, V_region, W_nil, W_cons, effOp2, KN_seq, KXr_nil, KXe_nil, KXe_seq, KXe_block, KXe_back, QE, effOp, effPure, effStore, pureV, storeV, partV, loadV, over, solid, IV.cells, ofC, strip, lkT, lkH, ISt.app, opI, gO, gB, allB, gval, wrapG, dstOK, setD, oneI, clean, conv, conv0, convL, Op.operands, reduceIte, cond_true, Bool.and_true, Nat.reduceAdd, Nat.reduceLT, Nat.reduceLeDiff, Nat.reduceEqDiff, Nat.zero_add, true_and, and_false, and_self, implies_true, List.map_nil, List.nil_append, List.cons_append, List.append_nil, List.all_cons, List.all_nil, List.getD_cons_zero, List.length_cons, List.length_nil, List.take_succ_cons, List.take_zero, List.take_nil, List.drop_succ_cons, List.drop_zero, List.drop_nil, tab55, hN, FinH, resA, resL, resV, SLe, SLe0, convTm, convHp]
        exact ⟨id, List.nodup_nil, fun _ _ _ => rfl⟩
def sp_spec_Highest : PSpec := ⟨fun xs => match xs with | [.sl 3 les] => isTs les | _ => False, fun xs => match xs with | [.sl _ les] => (fun (l : List Tr) => .tup [encQ (highV l), .bool (posB (cornV l).length)]) (toTs les) | _ => .junk, false⟩
theorem gk_spec_Highest : ∀ args, sp_spec_Highest.pre args → ICall Try.prog 38 args (sp_spec_Highest.val args) := by
  intro args h
  unfold sp_spec_Highest at h ⊢; simp only at h ⊢; split at h
  · have h0 := h
    obtain ⟨l0, rfl⟩ := isT_ex h0
    simp only [toTs_enc] at *
    exact c_spec_Highest _ 
  · exact h.elim
theorem en_spec_Highest : Enters Try.prog 38 := enters_of Try.func38 (by kernel_rfl) rfl


def g_laws_FnExactHighest : List (Nat × PSpec) := [(31, sp_laws_szHalfPlaneS), (38, sp_spec_Highest), (37, sp_impl_Highest), (41, sp_laws_eqRatPoint), (35, sp_laws_eqHalfPlaneS)]
theorem gok_laws_FnExactHighest : GOK Try.prog g_laws_FnExactHighest := gok_cons gk_laws_szHalfPlaneS en_laws_szHalfPlaneS (gok_cons gk_spec_Highest en_spec_Highest (gok_cons gk_impl_Highest en_impl_Highest (gok_cons gk_laws_eqRatPoint en_laws_eqRatPoint (gok_cons gk_laws_eqHalfPlaneS en_laws_eqHalfPlaneS (gok0)))))
theorem lk_laws_FnExactHighest_laws_szHalfPlaneS : lkG g_laws_FnExactHighest 31 = sp_laws_szHalfPlaneS := rfl
theorem lk_laws_FnExactHighest_spec_Highest : lkG g_laws_FnExactHighest 38 = sp_spec_Highest := rfl
theorem lk_laws_FnExactHighest_impl_Highest : lkG g_laws_FnExactHighest 37 = sp_impl_Highest := rfl
theorem lk_laws_FnExactHighest_laws_eqRatPoint : lkG g_laws_FnExactHighest 41 = sp_laws_eqRatPoint := rfl
theorem lk_laws_FnExactHighest_laws_eqHalfPlaneS : lkG g_laws_FnExactHighest 35 = sp_laws_eqHalfPlaneS := rfl
def h_laws_FnExactHighest : List (Nat × HSpec) := [(33, hs_laws_toHalfPlaneS)]
theorem hok_laws_FnExactHighest : HOK Try.prog h_laws_FnExactHighest := hok_cons hk_laws_toHalfPlaneS en_laws_toHalfPlaneS (hok0)
theorem lh_laws_FnExactHighest_laws_szHalfPlaneS : lkHS h_laws_FnExactHighest 31 = none := rfl
theorem lh_laws_FnExactHighest_spec_Highest : lkHS h_laws_FnExactHighest 38 = none := rfl
theorem lh_laws_FnExactHighest_impl_Highest : lkHS h_laws_FnExactHighest 37 = none := rfl
theorem lh_laws_FnExactHighest_laws_eqRatPoint : lkHS h_laws_FnExactHighest 41 = none := rfl
theorem lh_laws_FnExactHighest_laws_eqHalfPlaneS : lkHS h_laws_FnExactHighest 35 = none := rfl
theorem lh_laws_FnExactHighest_laws_toHalfPlaneS : lkHS h_laws_FnExactHighest 33 = some hs_laws_toHalfPlaneS := rfl
theorem c_laws_FnExactHighest (l : List Tr)  : ICall Try.prog 7 [.sl 3 (encTs l)] (.bool true) := by
  refine icall_V (G := g_laws_FnExactHighest) (H := h_laws_FnExactHighest) [] tabOK mixed gok_laws_FnExactHighest hok_laws_FnExactHighest Try.func7 rfl Try.ntmps7 Try.results7 rfl (by kernel_rfl) fun F hN hlen => ?_
  have hl := hlen 0 3 _ rfl
  have el := len_encTs l
  rw [el] at hl
  have hs : ∀ x : List Tr, (x == x) = true := fun x => by simp
  have hs2 : ∀ x : Qd, (x == x) = true := fun x => by simp
  have hb : ∀ x : Bool, (x != x) = false := fun x => by simp
  by_cases c : l.length ≤ 1048576
  · have hv : szHalfPlaneV l 1048576 = 1048576 - (l.length : Int) := if_neg (by omega)
    have d1 : decide (1048576 - (l.length : Int) < 0) = false := by simp only [decide_eq_false_iff_not]; omega
    simp only [V_seq, V_skip, V_ret, V_region, V_cond, brW_false, W_nil, W_cons, effOp2, KN_seq, KXr_nil, QE, asB, effOp, effPure, effPick, effNew, effAlloc, effStore, effCall, giveUp, hasAll, Option.isSome_some, skipE, pureV, pickV, storeV, binV, partV, loadV, over, solid, IV.cells, ofC, strip, lkT, lkH, ISt.app, opI, gO, gB, allB, gval, wrapG, dstOK, setD, mentTm, mentHp, IV.ment, IV.mentL, oneI, lendV, lendP, lent, lentP, idsV, idsL, flat, flatL, clean, cleanL, callArgs, callFn, allLent, enumT, Gives, Ideal.Fin, conv, conv0, IBlk.shape, Op.operands, reduceIte, reduceCtorEq, cond_true, cond_false, Bool.or_false, Bool.and_true, Bool.not_true, Bool.not_false, Nat.reduceAdd, Nat.reduceSub, Nat.reduceMul, Nat.reduceLT, Nat.reduceLeDiff, Nat.reduceEqDiff, Nat.reduceBEq, Nat.add_zero, Nat.zero_add, not_false_eq_true, beq_self_eq_true, true_and, and_true, and_false, and_self, implies_true, forall_const, List.map_cons, List.map_nil, List.nil_append, List.cons_append, List.append_nil, List.all_cons, List.all_nil, Option.map_none, Option.bind_some, List.getElem?_cons_zero, List.getElem?_cons_succ, List.getD_cons_zero, List.getD_cons_succ, List.length_cons, List.length_nil, List.take_succ_cons, List.take_zero, List.take_nil, List.drop_succ_cons, List.drop_zero, List.drop_nil, ex_clo, true_or, or_self, Bool.false_eq_true, tab4, tab55, hN, pe, encQ, isTs_enc, toTs_enc, SLe0, convTm, convHp, convB, sm, effH, mkHC0, mkHC1, lendM, lentM, lentI, allHere, addIds, flatIds, reach, posn, renV, renL, renB, renH, numB, subHp, fwd, bk, bwd, nones, keyOK, noSl, flatBs, List.contains, List.elem, Option.isSome_some, List.nodup_nil, List.nodup_cons, List.not_mem_nil, Option.getD_some, lk_laws_FnExactHighest_laws_szHalfPlaneS, lk_laws_FnExactHighest_spec_Highest, lk_laws_FnExactHighest_impl_Highest, lk_laws_FnExactHighest_laws_eqRatPoint, lk_laws_FnExactHighest_laws_eqHalfPlaneS, sp_laws_szHalfPlaneS, sp_spec_Highest, sp_impl_Highest, sp_laws_eqRatPoint, sp_laws_eqHalfPlaneS, lh_laws_FnExactHighest_laws_szHalfPlaneS, lh_laws_FnExactHighest_spec_Highest, lh_laws_FnExactHighest_impl_Highest, lh_laws_FnExactHighest_laws_eqRatPoint, lh_laws_FnExactHighest_laws_eqHalfPlaneS, lh_laws_FnExactHighest_laws_toHalfPlaneS, hs_laws_toHalfPlaneS, el, hv, d1, c, take_encTs]
    omega
  · have hv : szHalfPlaneV l 1048576 = -1 := if_pos (by omega)
    have d1 : decide ((-1 : Int) < 0) = true := by decide
    simp only [V_seq, V_ret, V_region, V_cond, brW_true, W_nil, W_cons, effOp2, KN_seq, KXr_nil, KXr_seq, QE, asB, effOp, effPure, effCall, giveUp, hasAll, pureV, binV, ofC, strip, lkT, lkH, ISt.app, opI, gO, gB, allB, gval, wrapG, dstOK, setD, lendV, lendP, lent, lentP, idsV, idsL, flat, clean, callArgs, callFn, allLent, enumT, Gives, Ideal.Fin, conv, conv0, Op.operands, reduceIte, reduceCtorEq, cond_true, Bool.or_false, Bool.not_true, Nat.reduceLT, Nat.reduceEqDiff, true_and, and_true, and_self, implies_true, forall_const, List.map_cons, List.map_nil, List.nil_append, List.cons_append, List.append_nil, ex_clo, or_self, hN, isTs_enc, toTs_enc, lk_laws_FnExactHighest_laws_szHalfPlaneS, sp_laws_szHalfPlaneS, lh_laws_FnExactHighest_laws_szHalfPlaneS, hv, d1]
    exact ⟨by omega, by omega⟩
def sp_laws_FnExactHighest : PSpec := ⟨fun xs => match xs with | [.sl 3 les] => isTs les | _ => False, fun xs => match xs with | [.sl _ les] => (fun (l : List Tr) => .bool true) (toTs les) | _ => .junk, false⟩
theorem gk_laws_FnExactHighest : ∀ args, sp_laws_FnExactHighest.pre args → ICall Try.prog 7 args (sp_laws_FnExactHighest.val args) := by
  intro args h
  unfold sp_laws_FnExactHighest at h ⊢; simp only at h ⊢; split at h
  · have h0 := h
    obtain ⟨l0, rfl⟩ := isT_ex h0
    simp only [toPs_enc] at *
    exact c_laws_FnExactHighest _ 
  · exact h.elim
theorem en_laws_FnExactHighest : Enters Try.prog 7 := enters_of Try.func7 (by kernel_rfl) rfl

end Go.Proofs.Ytlgjhojihgmfhaa
