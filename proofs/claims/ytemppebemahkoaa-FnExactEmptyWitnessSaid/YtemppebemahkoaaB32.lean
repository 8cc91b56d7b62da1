/- Contracts: corners of regions. -/
import Derived.Test.YtemppebemahkoaaB31
set_option linter.unusedVariables false
set_option linter.unusedSimpArgs false
set_option maxHeartbeats 1600000
set_option maxRecDepth 100000
namespace Go.Proofs.Ytemppebemahkoaa
open Go Go.Ideal Go.Pl Go.Sort

theorem okHs_sm {l : List Tr} (h : okHs l = true) : ∀ k ∈ l, smH k := by
  simp only [okHs, Bool.and_eq_true, List.all_eq_true] at h
  exact fun k hk => okHb_sm (h.1 k hk)
theorem okHs_len {l : List Tr} (h : okHs l = true) : l.length ≤ 8 := by
  simp only [okHs, Bool.and_eq_true, decide_eq_true_eq] at h
  exact h.2
theorem cornP_len {l : List Tr} (h : l.length ≤ 100) : (cornP l).length ≤ 100000 := by
  have h1 := fold_len (rawAll (l ++ boxL) (l ++ boxL).length) []
  have h2 := raw_len (l ++ boxL) (l ++ boxL).length
  have hb : (l ++ boxL).length ≤ 104 := by simp [boxL]; omega
  have h3 : (l ++ boxL).length * (l ++ boxL).length ≤ 104 * 104 := Nat.mul_le_mul hb hb
  rw [List.length_nil] at h1
  unfold cornP; omega
theorem corn_good {l : List Tr} (hs : ∀ k ∈ l, smH k) : ∀ q ∈ cornP l, goodQ q := fun q hq => raw_good (frame_at hs) _ q (mem_corn.1 hq)
theorem corn_sqs {l : List Tr} (hs : ∀ k ∈ l, smH k) : ∀ q ∈ cornP l, sqQ q := corn_sq (frame_at hs)
def g_impl_corners_v : List (Nat × PSpec) := [(162, sp_impl_frame), (110, sp_impl_reduced)]
theorem gok_impl_corners_v : GOK Try.prog g_impl_corners_v := gok_cons gk_impl_frame en_impl_frame (gok_cons gk_impl_reduced en_impl_reduced (gok0))
theorem lk_impl_corners_v_impl_frame : lkG g_impl_corners_v 162 = sp_impl_frame := rfl
theorem lk_impl_corners_v_impl_reduced : lkG g_impl_corners_v 110 = sp_impl_reduced := rfl
def h_impl_corners_v : List (Nat × HSpec) := [(140, hs_slices_SortFunc_impl_RatPoint_impl_RatPoint), (143, hs_slices_Compact_impl_RatPoint_impl_RatPoint), (142, hs_slices_Clip_impl_RatPoint_impl_RatPoint)]
theorem hok_impl_corners_v : HOK Try.prog h_impl_corners_v := hok_cons hk_slices_SortFunc_impl_RatPoint_impl_RatPoint en_slices_SortFunc_impl_RatPoint_impl_RatPoint (hok_cons hk_slices_Compact_impl_RatPoint_impl_RatPoint en_slices_Compact_impl_RatPoint_impl_RatPoint (hok_cons hk_slices_Clip_impl_RatPoint_impl_RatPoint en_slices_Clip_impl_RatPoint_impl_RatPoint (hok0)))
theorem lh_impl_corners_v_impl_frame : lkHS h_impl_corners_v 162 = none := rfl
theorem lh_impl_corners_v_impl_reduced : lkHS h_impl_corners_v 110 = none := rfl
theorem lh_impl_corners_v_slices_SortFunc_impl_RatPoint_impl_RatPoint : lkHS h_impl_corners_v 140 = some hs_slices_SortFunc_impl_RatPoint_impl_RatPoint := rfl
theorem lh_impl_corners_v_slices_Compact_impl_RatPoint_impl_RatPoint : lkHS h_impl_corners_v 143 = some hs_slices_Compact_impl_RatPoint_impl_RatPoint := rfl
theorem lh_impl_corners_v_slices_Clip_impl_RatPoint_impl_RatPoint : lkHS h_impl_corners_v 142 = some hs_slices_Clip_impl_RatPoint_impl_RatPoint := rfl
theorem c_impl_corners_v (l : List Tr) (hs : ∀ k ∈ l, smH k) (hsz : l.length ≤ 100) : ICallF Try.prog 94 [.sl 3 (encTs l)] (.sl 4 (encQs (cornP l))) := by
  exact icallF_ref' (c_impl_corners_h l hs hsz) (len_encQs _).symm (noSl_encQs _)
def sp_impl_corners_v : PSpec := ⟨fun xs => match xs with | [.sl 3 les] => isTs les ∧ ((fun (l : List Tr) => ∀ k ∈ l, smH k) (toTs les)) ∧ ((fun (l : List Tr) => l.length ≤ 100) (toTs les)) | _ => False, fun xs => match xs with | [.sl _ les] => (fun (l : List Tr) => .sl 4 (encQs (cornP l))) (toTs les) | _ => .junk, true⟩
theorem gk_impl_corners_v : ∀ args, sp_impl_corners_v.pre args → ICallF Try.prog 94 args (sp_impl_corners_v.val args) ∧ ∀ id, (sp_impl_corners_v.val args).ment id = false := by
  intro args h
  unfold sp_impl_corners_v at h ⊢; simp only at h ⊢; split at h
  · obtain ⟨h0, h1, h2⟩ := h
    obtain ⟨l0, rfl⟩ := isT_ex h0
    simp only [toTs_enc] at *
    exact ⟨c_impl_corners_v _ h1 h2, fun id => rfl⟩
  · exact h.elim
theorem en_impl_corners_v : Enters Try.prog 94 := enters_of Try.func94 (by kernel_rfl) rfl

def g_impl_Corners_h : List (Nat × PSpec) := [(38, sp_impl_ValidHalves)]
theorem gok_impl_Corners_h : GOK Try.prog g_impl_Corners_h := gok_cons gk_impl_ValidHalves en_impl_ValidHalves (gok0)
theorem lk_impl_Corners_h_impl_ValidHalves : lkG g_impl_Corners_h 38 = sp_impl_ValidHalves := rfl
def h_impl_Corners_h : List (Nat × HSpec) := [(94, hs_impl_corners_h)]
theorem hok_impl_Corners_h : HOK Try.prog h_impl_Corners_h := hok_cons hk_impl_corners_h en_impl_corners_h (hok0)
theorem lh_impl_Corners_h_impl_ValidHalves : lkHS h_impl_Corners_h 38 = none := rfl
theorem lh_impl_Corners_h_impl_corners_h : lkHS h_impl_Corners_h 94 = some hs_impl_corners_h := rfl
theorem c_impl_Corners_h (l : List Tr) (hk : okHs l = true) : HCall Try.prog 36 [.sl 3 (encTs l)] (sm ([])) (.ref 0 0 (cornP l).length false) (sm ([(0, .arr 4 60 (encQs (cornP l)))])) := by
  refine hcall_V (G := g_impl_Corners_h) (H := h_impl_Corners_h) [] tabOK mixed gok_impl_Corners_h hok_impl_Corners_h Try.func36 rfl Try.ntmps36 Try.results36 rfl (by kernel_rfl) fun F hN hlen => ?_
  simp only [sm]
  have hs := okHs_sm hk
  have hz : l.length ≤ 100 := by have := okHs_len hk; omega
  have e1 := len_encQs (cornP l)
  simp only [V_seq, V_skip, V_ret, V_region, V_cond, brW_false, W_nil, W_cons, effOp2, KN_seq, KXr_nil, QE, asB, effOp, effPure, effCall, giveUp, hasAll, Option.isSome_some, skipE, pureV, ofC, strip, lkT, lkH, ISt.app, opI, gO, gB, allB, gval, wrapG, dstOK, setD, mentTm, mentHp, IV.ment, lendV, lendP, lent, lentP, idsV, idsL, flat, clean, callArgs, callFn, allLent, enumT, conv, conv0, IBlk.shape, Op.operands, reduceIte, reduceCtorEq, cond_true, cond_false, Bool.or_false, Bool.and_true, Bool.not_true, Bool.not_false, Nat.reduceAdd, Nat.reduceSub, Nat.reduceMul, Nat.reduceLT, Nat.reduceLeDiff, Nat.reduceEqDiff, Nat.add_zero, not_false_eq_true, true_and, and_true, and_false, and_self, false_implies, implies_true, List.map_cons, List.map_nil, List.nil_append, List.cons_append, List.append_nil, List.all_nil, Option.map_none, ex_clo, true_or, or_self, Bool.false_eq_true, hN, isTs_enc, toTs_enc, FinH, resA, resV, SLe, SLe0, convTm, convHp, convB, sm, effH, mkHC0, mkHC1, lendM, lentM, lentI, allHere, addIds, flatIds, reach, posn, renV, renL, renB, renH, numB, subHp, fwd, bk, bwd, nones, keyOK, noSl, flatBs, List.contains, List.elem, Option.isSome_some, List.nodup_nil, List.nodup_cons, List.not_mem_nil, Option.getD_some, lk_impl_Corners_h_impl_ValidHalves, sp_impl_ValidHalves, lh_impl_Corners_h_impl_ValidHalves, lh_impl_Corners_h_impl_corners_h, hs_impl_corners_h, hk, hz, e1]
  exact ⟨⟨hs, (List.take_of_length_le (by omega)).symm⟩, fun x => if x = 0 then 2112 else x, by simp; omega⟩
def hs_impl_Corners_h : HSpec := ⟨[true], fun xs hp => match xs, hp with | [.sl 3 es], [] => (isTs es) ∧ ((fun (l : List Tr) => okHs l = true) (toTs es)) | _, _ => False, fun xs hp => match xs, hp with | [.sl 3 es], [] => (fun (l : List Tr) => (.ref 0 0 (cornP l).length false : IV)) (toTs es) | _, _ => .junk, fun xs hp => match xs, hp with | [.sl 3 es], [] => (fun (l : List Tr) => ([(0, .arr 4 60 (encQs (cornP l)))] : List (Nat × IBlk))) (toTs es) | _, _ => []⟩
theorem hk_impl_Corners_h : ∀ args hp, hs_impl_Corners_h.pre args hp → HCall Try.prog 36 args (sm hp) (hs_impl_Corners_h.val args hp) (sm (hs_impl_Corners_h.hval args hp)) := by
  intro args hp h
  unfold hs_impl_Corners_h at h ⊢; simp only at h ⊢; split at h
  · obtain ⟨h1, h2⟩ := h; obtain ⟨l, rfl⟩ := isT_ex h1; rw [toTs_enc] at *; exact c_impl_Corners_h l h2
  · exact h.elim
theorem en_impl_Corners_h : Enters Try.prog 36 := enters_of Try.func36 (by kernel_rfl) rfl

def g_impl_Corners_e0 : List (Nat × PSpec) := [(38, sp_impl_ValidHalves), (94, sp_impl_corners_v)]
theorem gok_impl_Corners_e0 : GOK Try.prog g_impl_Corners_e0 := gok_cons gk_impl_ValidHalves en_impl_ValidHalves (gok_consO gk_impl_corners_v en_impl_corners_v (gok0))
theorem lk_impl_Corners_e0_impl_ValidHalves : lkG g_impl_Corners_e0 38 = sp_impl_ValidHalves := rfl
theorem lk_impl_Corners_e0_impl_corners_v : lkG g_impl_Corners_e0 94 = sp_impl_corners_v := rfl
def h_impl_Corners_e0 : List (Nat × HSpec) := []
theorem hok_impl_Corners_e0 : HOK Try.prog h_impl_Corners_e0 := hok0
theorem c_impl_Corners_e0 (l : List Tr) (hk : okHs l = false) : ICall Try.prog 36 [.sl 3 (encTs l)] (.sl 4 []) := by
  refine icall_V (G := g_impl_Corners_e0) (H := []) [] tabOK mixed gok_impl_Corners_e0 hok_impl_Corners_e0 Try.func36 rfl Try.ntmps36 Try.results36 rfl (by kernel_rfl) fun F hN hlen => ?_
  simp only [V_seq, V_ret, V_region, V_cond, brW_true, W_nil, W_cons, effOp2, KN_seq, KXr_nil, KXr_seq, QE, asB, effOp, effPure, effCall, giveUp, hasAll, pureV, ofC, strip, lkT, lkH, ISt.app, opI, gO, gB, allB, gval, wrapG, dstOK, setD, lendV, lendP, lent, lentP, idsV, idsL, lkHS, flat, clean, callArgs, callFn, allLent, enumT, Gives, Ideal.Fin, conv, conv0, Op.operands, reduceIte, reduceCtorEq, cond_true, Bool.or_false, Bool.not_true, Bool.not_false, Nat.reduceLT, Nat.reduceEqDiff, and_self, implies_true, List.map_cons, List.map_nil, List.nil_append, List.cons_append, List.append_nil, ex_clo, or_self, hN, isTs_enc, toTs_enc, lk_impl_Corners_e0_impl_ValidHalves, sp_impl_ValidHalves, hk]
def sp_impl_Corners_e0 : PSpec := ⟨fun xs => match xs with | [.sl 3 les] => isTs les ∧ ((fun (l : List Tr) => okHs l = false) (toTs les)) | _ => False, fun xs => match xs with | [.sl _ les] => (fun (l : List Tr) => .sl 4 []) (toTs les) | _ => .junk, false⟩
theorem gk_impl_Corners_e0 : ∀ args, sp_impl_Corners_e0.pre args → ICall Try.prog 36 args (sp_impl_Corners_e0.val args) := by
  intro args h
  unfold sp_impl_Corners_e0 at h ⊢; simp only at h ⊢; split at h
  · obtain ⟨h0, h1⟩ := h
    obtain ⟨l0, rfl⟩ := isT_ex h0
    simp only [toTs_enc] at *
    exact c_impl_Corners_e0 _ h1
  · exact h.elim
theorem en_impl_Corners_e0 : Enters Try.prog 36 := enters_of Try.func36 (by kernel_rfl) rfl

def g_impl_Corners_e : List (Nat × PSpec) := [(38, sp_impl_ValidHalves)]
theorem gok_impl_Corners_e : GOK Try.prog g_impl_Corners_e := gok_cons gk_impl_ValidHalves en_impl_ValidHalves (gok0)
theorem lk_impl_Corners_e_impl_ValidHalves : lkG g_impl_Corners_e 38 = sp_impl_ValidHalves := rfl
def h_impl_Corners_e : List (Nat × HSpec) := []
theorem hok_impl_Corners_e : HOK Try.prog h_impl_Corners_e := hok0
theorem c_impl_Corners_e (l : List Tr) (hk : okHs l = false) : ICallF Try.prog 36 [.sl 3 (encTs l)] (.sl 4 []) := by
  exact icallF_nil (c_impl_Corners_e0 l hk)
def sp_impl_Corners_e : PSpec := ⟨fun xs => match xs with | [.sl 3 les] => isTs les ∧ ((fun (l : List Tr) => okHs l = false) (toTs les)) | _ => False, fun xs => match xs with | [.sl _ les] => (fun (l : List Tr) => .sl 4 []) (toTs les) | _ => .junk, true⟩
theorem gk_impl_Corners_e : ∀ args, sp_impl_Corners_e.pre args → ICallF Try.prog 36 args (sp_impl_Corners_e.val args) ∧ ∀ id, (sp_impl_Corners_e.val args).ment id = false := by
  intro args h
  unfold sp_impl_Corners_e at h ⊢; simp only at h ⊢; split at h
  · obtain ⟨h0, h1⟩ := h
    obtain ⟨l0, rfl⟩ := isT_ex h0
    simp only [toTs_enc] at *
    exact ⟨c_impl_Corners_e _ h1, fun id => rfl⟩
  · exact h.elim
theorem en_impl_Corners_e : Enters Try.prog 36 := enters_of Try.func36 (by kernel_rfl) rfl

/-- The corners of valid half-planes. -/
def cornV (l : List Tr) : List Qd := if okHs l then cornP l else []
def g_impl_Corners : List (Nat × PSpec) := [(38, sp_impl_ValidHalves), (94, sp_impl_corners_v)]
theorem gok_impl_Corners : GOK Try.prog g_impl_Corners := gok_cons gk_impl_ValidHalves en_impl_ValidHalves (gok_consO gk_impl_corners_v en_impl_corners_v (gok0))
theorem lk_impl_Corners_impl_ValidHalves : lkG g_impl_Corners 38 = sp_impl_ValidHalves := rfl
theorem lk_impl_Corners_impl_corners_v : lkG g_impl_Corners 94 = sp_impl_corners_v := rfl
def h_impl_Corners : List (Nat × HSpec) := []
theorem hok_impl_Corners : HOK Try.prog h_impl_Corners := hok0
theorem c_impl_Corners (l : List Tr)  : ICall Try.prog 36 [.sl 3 (encTs l)] (.sl 4 (encQs (cornV l))) := by
  refine icall_V (G := g_impl_Corners) (H := []) [] tabOK mixed gok_impl_Corners hok_impl_Corners Try.func36 rfl Try.ntmps36 Try.results36 rfl (by kernel_rfl) fun F hN hlen => ?_
  cases hk : okHs l with
  | true =>
    have hv : cornV l = cornP l := by rw [cornV, hk]; rfl
    have hs := okHs_sm hk
    have hz : l.length ≤ 100 := by have := okHs_len hk; omega
    simp only [V_seq, V_skip, V_ret, V_region, V_cond, brW_false, W_nil, W_cons, effOp2, KN_seq, KXr_nil, QE, asB, effOp, effPure, effCall, giveUp, hasAll, pureV, ofC, strip, lkT, lkH, ISt.app, opI, gO, gB, allB, gval, wrapG, dstOK, setD, lendV, lendP, lent, lentP, idsV, idsL, lkHS, flat, clean, callArgs, callFn, allLent, enumT, Gives, Ideal.Fin, conv, conv0, Op.operands, reduceIte, reduceCtorEq, cond_true, Bool.or_false, Bool.or_true, Bool.not_true, Nat.reduceLT, Nat.reduceEqDiff, true_and, and_true, and_self, implies_true, forall_const, List.map_cons, List.map_nil, List.nil_append, List.cons_append, List.append_nil, ex_clo, or_self, hN, isTs_enc, toTs_enc, lk_impl_Corners_impl_ValidHalves, lk_impl_Corners_impl_corners_v, sp_impl_ValidHalves, sp_impl_corners_v, hk, hz, hv]
    exact hs
  | false =>
    have hv : cornV l = [] := by rw [cornV, hk]; rfl
    have e0 : encQs [] = [] := rfl
    simp only [V_seq, V_ret, V_region, V_cond, brW_true, W_nil, W_cons, effOp2, KN_seq, KXr_nil, KXr_seq, QE, asB, effOp, effPure, effCall, giveUp, hasAll, pureV, ofC, strip, lkT, lkH, ISt.app, opI, gO, gB, allB, gval, wrapG, dstOK, setD, lendV, lendP, lent, lentP, idsV, idsL, lkHS, flat, clean, callArgs, callFn, allLent, enumT, Gives, Ideal.Fin, conv, conv0, Op.operands, reduceIte, reduceCtorEq, cond_true, Bool.or_false, Bool.not_true, Bool.not_false, Nat.reduceLT, Nat.reduceEqDiff, and_self, implies_true, List.map_cons, List.map_nil, List.nil_append, List.cons_append, List.append_nil, ex_clo, or_self, hN, isTs_enc, toTs_enc, lk_impl_Corners_impl_ValidHalves, sp_impl_ValidHalves, hk, hv, e0]
def sp_impl_Corners : PSpec := ⟨fun xs => match xs with | [.sl 3 les] => isTs les | _ => False, fun xs => match xs with | [.sl _ les] => (fun (l : List Tr) => .sl 4 (encQs (cornV l))) (toTs les) | _ => .junk, false⟩
theorem gk_impl_Corners : ∀ args, sp_impl_Corners.pre args → ICall Try.prog 36 args (sp_impl_Corners.val args) := by
  intro args h
  unfold sp_impl_Corners at h ⊢; simp only at h ⊢; split at h
  · have h0 := h
    obtain ⟨l0, rfl⟩ := isT_ex h0
    simp only [toTs_enc] at *
    exact c_impl_Corners _ 
  · exact h.elim
theorem en_impl_Corners : Enters Try.prog 36 := enters_of Try.func36 (by kernel_rfl) rfl


end Go.Proofs.Ytemppebemahkoaa
