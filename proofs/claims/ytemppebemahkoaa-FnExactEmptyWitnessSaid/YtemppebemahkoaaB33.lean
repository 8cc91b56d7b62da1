/- Contracts: empty regions. -/
import Derived.Test.YtemppebemahkoaaB32
set_option linter.unusedVariables false
set_option linter.unusedSimpArgs false
set_option maxHeartbeats 1600000
set_option maxRecDepth 100000
namespace Go.Proofs.Ytemppebemahkoaa
open Go Go.Ideal Go.Pl Go.Sort

/-! empty regions -/
abbrev iAt9 (l : List Int) (i : Nat) : Int := l.getD i 0
def g_impl_CheckEmpty_1 : List (Nat × PSpec) := [(92, sp_impl_within)]
theorem gok_impl_CheckEmpty_1 : GOK Try.prog g_impl_CheckEmpty_1 := gok_cons gk_impl_within en_impl_within (gok0)
theorem lk_impl_CheckEmpty_1_impl_within : lkG g_impl_CheckEmpty_1 92 = sp_impl_within := rfl
def h_impl_CheckEmpty_1 : List (Nat × HSpec) := []
theorem hok_impl_CheckEmpty_1 : HOK Try.prog h_impl_CheckEmpty_1 := hok0
theorem c_impl_CheckEmpty_1 (k : Int) (l : List Tr) (hz : l.length ≤ 1000000) : HCall Try.prog 91 [.num .i64 k, .ptr 1000 0] (sm ([(1000, .box 43 [.sl 3 (encTs l)])])) (.bool (!inR k 0 ((l.length : Int) - 1))) (sm ([(1000, .box 43 [.sl 3 (encTs l)])])) := by
  refine hcall_V (G := g_impl_CheckEmpty_1) (H := []) [] tabOK mixed gok_impl_CheckEmpty_1 hok_impl_CheckEmpty_1 Try.func91 rfl Try.ntmps91 Try.results91 rfl (by kernel_rfl) fun F hN hlen => ?_
  simp only [sm]
  have el := len_encTs l
  have w0 : IntKind.i64.wrap ((l.length : Int) - 1) = (l.length : Int) - 1 := wr (by omega) (by omega)
  simp only [V_seq, V_ret, V_region, W_nil, W_cons, effOp2, KN_seq, KXr_nil, QE, effOp, effPure, effCall, giveUp, hasAll, pureV, binV, partV, loadV, lenV, ofC, strip, lkT, lkH, ISt.app, opI, gO, gB, allB, gval, wrapG, dstOK, setD, lendV, lendP, lent, lentP, idsV, idsL, lkHS, flat, clean, callArgs, callFn, allLent, enumT, conv, conv0, Op.operands, Call.operands, List.append_toArray, reduceIte, reduceCtorEq, cond_true, Bool.or_false, Bool.not_true, Nat.reduceLT, Nat.reduceLeDiff, Nat.reduceEqDiff, Nat.zero_add, ne_eq, not_false_eq_true, true_and, and_true, and_self, false_implies, implies_true, List.map_cons, List.map_nil, List.nil_append, List.cons_append, List.append_nil, List.getD_cons_zero, List.length_cons, List.length_nil, List.take_succ_cons, List.take_nil, List.drop_zero, ex_clo, or_self, tab43, hN, FinH, resA, resV, SLe, SLe0, convTm, convHp, convB, lk_impl_CheckEmpty_1_impl_within, sp_impl_within, el, w0]
  exact ⟨id, by simp [convL, conv, conv0]⟩
def hs_impl_CheckEmpty_1 : HSpec := ⟨[false, false], fun xs hp => match xs, hp with | [.num .i64 k, .ptr 1000 0], [(1000, .box ty [.sl 3 es])] => (isTs es) ∧ (ty = 43) ∧ ((fun (k : Int) (l : List Tr) => l.length ≤ 1000000) k (toTs es)) | _, _ => False, fun xs hp => match xs, hp with | [.num .i64 k, .ptr 1000 0], [(1000, .box ty [.sl 3 es])] => (fun (k : Int) (l : List Tr) => (.bool (!inR k 0 ((l.length : Int) - 1)) : IV)) k (toTs es) | _, _ => .junk, fun xs hp => match xs, hp with | [.num .i64 k, .ptr 1000 0], [(1000, .box ty [.sl 3 es])] => (fun (k : Int) (l : List Tr) => ([(1000, .box 43 [.sl 3 (encTs l)])] : List (Nat × IBlk))) k (toTs es) | _, _ => []⟩
theorem hk_impl_CheckEmpty_1 : ∀ args hp, hs_impl_CheckEmpty_1.pre args hp → HCall Try.prog 91 args (sm hp) (hs_impl_CheckEmpty_1.val args hp) (sm (hs_impl_CheckEmpty_1.hval args hp)) := by
  intro args hp h
  unfold hs_impl_CheckEmpty_1 at h ⊢; simp only at h ⊢; split at h
  · obtain ⟨h1, rfl, h2⟩ := h; obtain ⟨l, rfl⟩ := isT_ex h1; rw [toTs_enc] at *; exact c_impl_CheckEmpty_1 _ l h2
  · exact h.elim
theorem en_impl_CheckEmpty_1 : Enters Try.prog 91 := enters_of Try.func91 (by kernel_rfl) rfl

def g_slices_IndexFunc_int_int_chk : List (Nat × PSpec) := []
theorem gok_slices_IndexFunc_int_int_chk : GOK Try.prog g_slices_IndexFunc_int_int_chk := gok0
def h_slices_IndexFunc_int_int_chk : List (Nat × HSpec) := [(91, hs_impl_CheckEmpty_1)]
theorem hok_slices_IndexFunc_int_int_chk : HOK Try.prog h_slices_IndexFunc_int_int_chk := hok_cons hk_impl_CheckEmpty_1 en_impl_CheckEmpty_1 (hok0)
theorem lh_slices_IndexFunc_int_int_chk_impl_CheckEmpty_1 : lkHS h_slices_IndexFunc_int_int_chk 91 = some hs_impl_CheckEmpty_1 := rfl
theorem c_slices_IndexFunc_int_int_chk (w : List Int) (l : List Tr) (hz : l.length ≤ 1000000) (hsz : w.length ≤ 1000000) : HCall Try.prog 161 [.sl 1 (encI w), .clo 91 [.ptr 1000 0]] (sm ([(1000, .box 43 [.sl 3 (encTs l)])])) (.num .i64 (idxF (fun k => !inR k 0 ((l.length : Int) - 1)) w 0)) (sm ([(1000, .box 43 [.sl 3 (encTs l)])])) := by
  refine hcall_V (G := g_slices_IndexFunc_int_int_chk) (H := h_slices_IndexFunc_int_int_chk) [] tabOK mixed gok_slices_IndexFunc_int_int_chk hok_slices_IndexFunc_int_int_chk Try.func161 rfl Try.ntmps161 Try.results161 rfl (by kernel_rfl) fun F hN hlen => ?_
  simp only [sm]
  have el := len_encI w
  simp only [V_seq, V_block, V_region, W_nil, W_cons, effOp2, KN_seq, effOp, effPure, pureV, lenV, ofC, strip, lkT, ISt.app, opI, gO, gB, allB, gval, wrapG, dstOK, setD, enumT, Op.operands, Call.operands, List.append_toArray, reduceIte, reduceCtorEq, Nat.reduceLT, Nat.reduceEqDiff, Nat.zero_add, ne_eq, not_false_eq_true, true_and, and_self, implies_true, List.nil_append, List.cons_append, tab25, hN, el]
  refine V_loop (α := Nat) ⟨tabOK, mixed, gok_slices_IndexFunc_int_int_chk, hok_slices_IndexFunc_int_int_chk⟩ (by kernel_rfl) (fun i => i ≤ w.length ∧ idxF (fun k => !inR k 0 ((l.length : Int) - 1)) w 0 = idxF (fun k => !inR k 0 ((l.length : Int) - 1)) (w.drop i) i)
    (fun i => ⟨[(8, .num .i64 i), (7, .num .i64 w.length), (0, .sl 1 (encI w)), (1, .clo 91 [.ptr 1000 0])], [(1000, some (.box 43 [.sl 3 (encTs l)]))]⟩) (fun i => w.length - i) 0 id (by simp) (by simp [SLe, SLe0, convTm, convHp, convB, conv, conv0, convL, lkT, lkH, clean]) ?_
  rintro i ⟨hi2, hj⟩
  simp only [V_seq, V_region, V_cond, W_nil, W_cons, effOp2, KN_seq, asB, effOp, effPure, pureV, binV, strip, lkT, ISt.app, opI, gO, gB, allB, gval, wrapG, dstOK, setD, Op.operands, reduceIte, reduceCtorEq, Nat.reduceLT, Nat.reduceEqDiff, true_and, and_self, implies_true, List.nil_append, List.cons_append, hN]
  refine brW_some (fun h => ?_) (fun h => ?_)
  · have hi' : i < w.length := by simpa using h
    have g0 := getD_encI hi'
    have hw := wr_succ hi' (by rw [maxLen_eq]; omega)
    have hst := idxF_step (p := fun k => !inR k 0 ((l.length : Int) - 1)) (d := 0) hi'
    generalize w.getD i 0 = z at *
    simp only [V_seq, V_skip, V_block, V_region, V_cond, W_nil, W_cons, effOp2, KN_seq, asB, effOp, effPure, Option.isSome_some, skipE, pureV, eltV, loadV, iaddrV, strip, lkT, lkH, ISt.app, opI, gO, gB, allB, gval, wrapG, dstOK, setD, mentTm, mentHp, IV.ment, IV.mentL, idsV, idsL, clean, callArgs, callFn, enumT, conv, conv0, convL, IBlk.shape, Op.operands, reduceIte, reduceCtorEq, cond_true, cond_false, Bool.or_false, Bool.or_true, Bool.and_true, Nat.reduceAdd, Nat.reduceSub, Nat.reduceMul, Nat.reduceLT, Nat.reduceLeDiff, Nat.reduceEqDiff, Nat.zero_add, ne_eq, not_false_eq_true, beq_self_eq_true, true_and, and_true, and_false, and_self, implies_true, forall_const, List.map_cons, List.map_nil, List.nil_append, List.cons_append, List.append_nil, List.all_nil, Option.map_some, List.getD_cons_zero, ex_clo, Bool.true_eq_false, Bool.false_eq_true, tab3, tab25, hN, Int.toNat_natCast, isTs_enc, toTs_enc, SLe0, convTm, convHp, convB, sm, effH, mkHC0, mkHC1, lendM, lentM, lentI, allHere, addIds, idsB, flatIds, reach, posn, renV, renL, renB, renH, numB, subHp, fwd, bk, bwd, nones, keyOK, noSl, noSlL, flatBs, List.contains, List.elem, Option.isSome_some, List.nodup_nil, List.nodup_cons, List.not_mem_nil, or_false, Option.getD_some, lh_slices_IndexFunc_int_int_chk_impl_CheckEmpty_1, hs_impl_CheckEmpty_1, el, g0, hz]
    refine ⟨⟨by omega, by omega⟩, brW_some (fun h => ?_) (fun h => ?_)⟩
    · rw [if_pos h, ← hj] at hst
      simp only [V_seq, V_ret, V_region, W_nil, W_cons, effOp2, KN_seq, KXr_nil, KXr_seq, KXr_block, KXr_back, QE, effOp, effPure, pureV, strip, lkT, lkH, ISt.app, opI, gO, gB, allB, gval, wrapG, dstOK, setD, clean, conv, conv0, Op.operands, reduceIte, reduceCtorEq, Nat.reduceLT, Nat.reduceEqDiff, not_false_eq_true, true_and, and_true, and_self, false_implies, implies_true, List.map_cons, List.map_nil, List.nil_append, List.cons_append, hN, FinH, resA, resV, SLe, SLe0, convTm, convHp, convB, List.nodup_nil, List.nodup_cons, List.not_mem_nil, hst]
      exact ⟨id, by simp [convL, conv, conv0]⟩
    · rw [if_neg (by rw [h]; decide), ← hj] at hst
      simp only [V_skip, V_region, W_nil, W_cons, effOp2, KN_seq, KN_block, KN_back, effOp, effPure, pureV, binV, ofC, strip, lkT, ISt.app, opI, gO, gB, allB, gval, wrapG, dstOK, setD, Op.operands, reduceIte, reduceCtorEq, Nat.reduceLT, Nat.reduceEqDiff, true_and, and_self, implies_true, List.nil_append, List.cons_append, hN, hw]
      exact ⟨i + 1, id, ⟨by omega, hst⟩, by simp only []; omega, by simp [SLe, SLe0, convTm, convHp, convB, conv, conv0, convL, lkT, lkH, clean]⟩
  · have hie : i = w.length := by simp at h; omega
    subst hie
    rw [List.drop_length] at hj
    simp only [V_seq, V_ret, V_exit, V_region, W_nil, W_cons, effOp2, KN_seq, KXr_nil, KXe_nil, KXe_seq, KXe_block, KXe_back, QE, effOp, effPure, pureV, ofC, strip, lkT, lkH, ISt.app, opI, gO, gB, allB, gval, wrapG, dstOK, setD, clean, conv, conv0, Op.operands, reduceIte, reduceCtorEq, Nat.reduceLT, Nat.reduceEqDiff, not_false_eq_true, true_and, and_true, and_self, false_implies, implies_true, List.map_cons, List.map_nil, List.nil_append, List.cons_append, hN, FinH, resA, resV, SLe, SLe0, convTm, convHp, convB, List.nodup_nil, List.nodup_cons, List.not_mem_nil, hj, idxF]
    exact ⟨id, by simp [convL, conv, conv0]⟩
def hs_slices_IndexFunc_int_int_chk : HSpec := ⟨[true, false], fun xs hp => match xs, hp with | [.sl 1 ws, .clo 91 [.ptr 1000 0]], [(1000, .box ty [.sl 3 es])] => (isIs ws) ∧ (isTs es) ∧ (ty = 43) ∧ ((fun (w : List Int) (l : List Tr) => l.length ≤ 1000000) (toIs ws) (toTs es)) ∧ ((fun (w : List Int) (l : List Tr) => w.length ≤ 1000000) (toIs ws) (toTs es)) | _, _ => False, fun xs hp => match xs, hp with | [.sl 1 ws, .clo 91 [.ptr 1000 0]], [(1000, .box ty [.sl 3 es])] => (fun (w : List Int) (l : List Tr) => (.num .i64 (idxF (fun k => !inR k 0 ((l.length : Int) - 1)) w 0) : IV)) (toIs ws) (toTs es) | _, _ => .junk, fun xs hp => match xs, hp with | [.sl 1 ws, .clo 91 [.ptr 1000 0]], [(1000, .box ty [.sl 3 es])] => (fun (w : List Int) (l : List Tr) => ([(1000, .box 43 [.sl 3 (encTs l)])] : List (Nat × IBlk))) (toIs ws) (toTs es) | _, _ => []⟩
theorem hk_slices_IndexFunc_int_int_chk : ∀ args hp, hs_slices_IndexFunc_int_int_chk.pre args hp → HCall Try.prog 161 args (sm hp) (hs_slices_IndexFunc_int_int_chk.val args hp) (sm (hs_slices_IndexFunc_int_int_chk.hval args hp)) := by
  intro args hp h
  unfold hs_slices_IndexFunc_int_int_chk at h ⊢; simp only at h ⊢; split at h
  · obtain ⟨h0, h1, rfl, h2, h3⟩ := h; obtain ⟨w, rfl⟩ := isI_ex h0; obtain ⟨l, rfl⟩ := isT_ex h1; rw [toIs_enc, toTs_enc] at *; exact c_slices_IndexFunc_int_int_chk w l h2 h3
  · exact h.elim
theorem en_slices_IndexFunc_int_int_chk : Enters Try.prog 161 := enters_of Try.func161 (by kernel_rfl) rfl

def g_slices_ContainsFunc_int_int_chk : List (Nat × PSpec) := []
theorem gok_slices_ContainsFunc_int_int_chk : GOK Try.prog g_slices_ContainsFunc_int_int_chk := gok0
def h_slices_ContainsFunc_int_int_chk : List (Nat × HSpec) := [(161, hs_slices_IndexFunc_int_int_chk)]
theorem hok_slices_ContainsFunc_int_int_chk : HOK Try.prog h_slices_ContainsFunc_int_int_chk := hok_cons hk_slices_IndexFunc_int_int_chk en_slices_IndexFunc_int_int_chk (hok0)
theorem lh_slices_ContainsFunc_int_int_chk_slices_IndexFunc_int_int_chk : lkHS h_slices_ContainsFunc_int_int_chk 161 = some hs_slices_IndexFunc_int_int_chk := rfl
theorem c_slices_ContainsFunc_int_int_chk (w : List Int) (l : List Tr) (hz : l.length ≤ 1000000) (hsz : w.length ≤ 1000000) : HCall Try.prog 90 [.sl 1 (encI w), .clo 91 [.ptr 1000 0]] (sm ([(1000, .box 43 [.sl 3 (encTs l)])])) (.bool (w.any (fun k => !inR k 0 ((l.length : Int) - 1)))) (sm ([(1000, .box 43 [.sl 3 (encTs l)])])) := by
  refine hcall_V (G := g_slices_ContainsFunc_int_int_chk) (H := h_slices_ContainsFunc_int_int_chk) [] tabOK mixed gok_slices_ContainsFunc_int_int_chk hok_slices_ContainsFunc_int_int_chk Try.func90 rfl Try.ntmps90 Try.results90 rfl (by kernel_rfl) fun F hN hlen => ?_
  simp only [sm]
  simp only [V_seq, V_ret, V_region, W_nil, W_cons, effOp2, KN_seq, KXr_nil, QE, effOp, effPure, Option.isSome_some, skipE, pureV, binV, ofC, strip, lkT, lkH, ISt.app, opI, gO, gB, allB, gval, wrapG, dstOK, setD, mentTm, mentHp, IV.ment, IV.mentL, lendV, lendP, lent, lentP, idsV, idsL, clean, callArgs, callFn, enumT, conv, conv0, convL, IBlk.shape, Op.operands, reduceIte, reduceCtorEq, cond_true, cond_false, Bool.or_false, Bool.or_true, Bool.and_true, Nat.reduceAdd, Nat.reduceSub, Nat.reduceMul, Nat.reduceLT, Nat.reduceLeDiff, Nat.reduceEqDiff, Nat.zero_add, not_false_eq_true, beq_self_eq_true, true_and, and_true, and_false, and_self, false_implies, implies_true, List.map_cons, List.map_nil, List.nil_append, List.cons_append, List.append_nil, List.all_nil, Option.map_some, List.getD_cons_zero, ex_clo, Bool.true_eq_false, Bool.false_eq_true, hN, isTs_enc, toTs_enc, isIs_enc, toIs_enc, FinH, resA, resV, SLe, SLe0, convTm, convHp, convB, sm, effH, mkHC0, mkHC1, lendM, lentM, lentI, allHere, addIds, idsB, flatIds, reach, posn, renV, renL, renB, renH, numB, subHp, fwd, bk, bwd, nones, keyOK, noSl, noSlL, flatBs, List.contains, List.elem, Option.isSome_some, List.nodup_nil, List.nodup_cons, List.not_mem_nil, or_false, Option.getD_some, lh_slices_ContainsFunc_int_int_chk_slices_IndexFunc_int_int_chk, hs_slices_IndexFunc_int_int_chk, hz, hsz, idxF_sign]
  exact ⟨id, by simp [convL, conv, conv0]⟩
def hs_slices_ContainsFunc_int_int_chk : HSpec := ⟨[true, false], fun xs hp => match xs, hp with | [.sl 1 ws, .clo 91 [.ptr 1000 0]], [(1000, .box ty [.sl 3 es])] => (isIs ws) ∧ (isTs es) ∧ (ty = 43) ∧ ((fun (w : List Int) (l : List Tr) => l.length ≤ 1000000) (toIs ws) (toTs es)) ∧ ((fun (w : List Int) (l : List Tr) => w.length ≤ 1000000) (toIs ws) (toTs es)) | _, _ => False, fun xs hp => match xs, hp with | [.sl 1 ws, .clo 91 [.ptr 1000 0]], [(1000, .box ty [.sl 3 es])] => (fun (w : List Int) (l : List Tr) => (.bool (w.any (fun k => !inR k 0 ((l.length : Int) - 1))) : IV)) (toIs ws) (toTs es) | _, _ => .junk, fun xs hp => match xs, hp with | [.sl 1 ws, .clo 91 [.ptr 1000 0]], [(1000, .box ty [.sl 3 es])] => (fun (w : List Int) (l : List Tr) => ([(1000, .box 43 [.sl 3 (encTs l)])] : List (Nat × IBlk))) (toIs ws) (toTs es) | _, _ => []⟩
theorem hk_slices_ContainsFunc_int_int_chk : ∀ args hp, hs_slices_ContainsFunc_int_int_chk.pre args hp → HCall Try.prog 90 args (sm hp) (hs_slices_ContainsFunc_int_int_chk.val args hp) (sm (hs_slices_ContainsFunc_int_int_chk.hval args hp)) := by
  intro args hp h
  unfold hs_slices_ContainsFunc_int_int_chk at h ⊢; simp only at h ⊢; split at h
  · obtain ⟨h0, h1, rfl, h2, h3⟩ := h; obtain ⟨w, rfl⟩ := isI_ex h0; obtain ⟨l, rfl⟩ := isT_ex h1; rw [toIs_enc, toTs_enc] at *; exact c_slices_ContainsFunc_int_int_chk w l h2 h3
  · exact h.elim
theorem en_slices_ContainsFunc_int_int_chk : Enters Try.prog 90 := enters_of Try.func90 (by kernel_rfl) rfl

def selL (l : List Tr) (w : List Int) : List Tr := w.map fun k => tAt l k.toNat
theorem selL_len (l : List Tr) (w : List Int) : (selL l w).length = w.length := by simp [selL]
theorem selL_step {l : List Tr} {w : List Int} {i : Nat} (h : i < w.length) : selL l (w.take (i + 1)) = selL l (w.take i) ++ [tAt l (w.getD i 0).toNat] := by
  rw [take_succ_g (d := 0) h]; simp [selL]
theorem selL_sm {l : List Tr} {w : List Int} (hs : ∀ k ∈ l, smH k) (hw : ∀ x ∈ w, 0 ≤ x ∧ x < (l.length : Int)) : ∀ k ∈ selL l w, smH k := by
  intro k hk
  simp only [selL, List.mem_map] at hk
  obtain ⟨x, hx, rfl⟩ := hk
  have := hw x hx
  refine hs _ ?_
  rw [tAt, List.getD, List.getElem?_eq_getElem (by omega)]; exact List.getElem_mem (by omega)
theorem len_zero_empty {α : Type} (l : List α) : ((l.length : Int) == 0) = l.isEmpty := by cases l <;> simp <;> omega
def g_impl_empty : List (Nat × PSpec) := [(94, sp_impl_corners_v)]
theorem gok_impl_empty : GOK Try.prog g_impl_empty := gok_consO gk_impl_corners_v en_impl_corners_v (gok0)
theorem lk_impl_empty_impl_corners_v : lkG g_impl_empty 94 = sp_impl_corners_v := rfl
def h_impl_empty : List (Nat × HSpec) := []
theorem hok_impl_empty : HOK Try.prog h_impl_empty := hok0
theorem c_impl_empty (l : List Tr) (w : List Int) (hs : ∀ k ∈ l, smH k) (hw : ∀ x ∈ w, 0 ≤ x ∧ x < (l.length : Int)) (hsz : w.length ≤ 3) : ICall Try.prog 86 [.sl 3 (encTs l), .sl 1 (encI w)] (.bool (cornP (selL l w)).isEmpty) := by
  refine icall_V (G := g_impl_empty) (H := []) [] tabOK mixed gok_impl_empty hok_impl_empty Try.func86 rfl Try.ntmps86 Try.results86 rfl (by kernel_rfl) fun F hN hlen => ?_
  have el := len_encTs l
  have ew := len_encI w
  simp only [V_seq, V_block, V_region, W_nil, W_cons, effOp2, KN_seq, effOp, effPure, effNew, effMake, skipE, pureV, lenV, ofC, strip, lkT, ISt.app, opI, gO, gB, allB, gval, wrapG, dstOK, setD, mentTm, mentHp, IV.ment, zeroElt, noId', enumT, Op.operands, Call.operands, List.append_toArray, reduceIte, reduceCtorEq, cond_true, Bool.or_false, Bool.and_true, Nat.reduceLT, Nat.reduceLeDiff, Nat.reduceEqDiff, Nat.zero_add, ne_eq, not_false_eq_true, true_and, and_true, and_self, implies_true, List.nil_append, List.cons_append, List.append_nil, List.all_cons, List.all_nil, tab25, tab43, tab98, hN, ew]
  refine ⟨⟨by omega, by omega, by omega, by omega⟩, ?_⟩
  refine V_loop (α := Nat) ⟨tabOK, mixed, gok_impl_empty, hok_impl_empty⟩ (by kernel_rfl) (fun i => i ≤ w.length) (fun i => ⟨[(13, .num .i64 i), (12, .num .i64 w.length), (11, .sl 1 (encI w)), (5, .ref 10 0 i true), (0, .sl 3 (encTs l))], [(10, some (.arr 3 98 (encTs (selL l (w.take i)))))]⟩) (fun i => w.length - i) 0 id (Nat.zero_le _) (by simp [SLe, SLe0, convTm, convHp, convB, conv, conv0, lkT, lkH, clean, selL, encTs]) ?_
  intro i hi
  have eo : (encTs (selL l (w.take i))).length = i := by rw [len_encTs, selL_len, List.length_take]; omega
  have hx : ∃ k ty es, IBlk.arr 3 98 (encTs (selL l (w.take i))) = IBlk.arr k ty es := ⟨_, _, _, rfl⟩
  simp only [V_seq, V_region, V_cond, W_nil, W_cons, effOp2, KN_seq, asB, effOp, effPure, pureV, binV, strip, lkT, ISt.app, opI, gO, gB, allB, gval, wrapG, dstOK, setD, Op.operands, reduceIte, reduceCtorEq, Nat.reduceLT, Nat.reduceEqDiff, true_and, and_self, implies_true, List.nil_append, List.cons_append, hN]
  refine brW_some (fun h => ?_) (fun h => ?_)
  · have hi' : i < w.length := by simpa using h
    have hwi := wr_succ hi' (by rw [maxLen_eq]; omega)
    have g0 := getD_encI hi'
    have hb := hw (w.getD i 0) (by rw [List.getD, List.getElem?_eq_getElem hi']; exact List.getElem_mem hi')
    have hst := selL_step (l := l) hi'
    obtain ⟨x, hxx⟩ : ∃ x, w.getD i 0 = x := ⟨_, rfl⟩
    rw [hxx] at g0 hb hst
    obtain ⟨k, rfl⟩ : ∃ k : Nat, x = k := ⟨x.toNat, by omega⟩
    rw [Int.toNat_natCast] at hst
    have g1 := getD_encTs (l := l) (i := k) (by omega)
    obtain ⟨q, hq⟩ : ∃ q, tAt l k = q := ⟨_, rfl⟩
    rw [hq] at g1 hst
    have hen : encTs (selL l (w.take (i + 1))) = (encTs (selL l (w.take i))).take i ++ [IV.agg [.num .i64 q.1, .num .i64 q.2.1, .num .i64 q.2.2]] := by
      have ht : (encTs (selL l (w.take i))).take i = encTs (selL l (w.take i)) := List.take_of_length_le (by omega)
      rw [hst, ← encTs_app, ht]; rfl
    simp only [V_seq, V_skip, V_block, V_region, W_nil, W_cons, effOp2, KN_seq, KN_block, KN_back, effOp, effPure, effNew, effBuildSlice, effFrz, frz, tmpsOf, effAppend, effZeros, skipE, pureV, srcV, refId, binV, partV, eltV, loadV, iaddrV, ofC, strip, lkT, lkH, ISt.app, opI, gO, gB, allB, gval, wrapG, dstOK, setD, mentTm, mentHp, IV.ment, IV.mentL, partsL, eltsI, eltI, oneI, noId', Op.operands, reduceIte, reduceCtorEq, cond_true, Bool.or_false, Bool.and_true, Nat.reduceAdd, Nat.reduceMul, Nat.reduceLT, Nat.reduceLeDiff, Nat.reduceEqDiff, Nat.reduceBEq, Nat.zero_add, ne_eq, not_false_eq_true, true_and, and_true, and_false, and_self, implies_true, forall_const, List.nil_append, List.cons_append, List.append_nil, List.all_cons, List.all_nil, Option.some.injEq, List.getD_cons_zero, List.length_cons, List.length_nil, List.take_succ_cons, List.take_nil, List.drop_zero, tab3, tab25, tab43, tab98, hN, Int.toNat_natCast, el, ew, hwi, g0, g1, eo]
    repeat refine And.intro (by first | omega | (simp; done) | (simp; omega)) ?_
    refine ⟨i + 1, fun x => if x = 10 then 23 else x, by simp only []; omega, by simp only []; omega, ?_⟩
    simp only [hen]
    simp [SLe, SLe0, convTm, convHp, convB, conv, conv0, lkT, lkH, clean]
    exact ⟨(List.take_of_length_le (by rw [List.length_append, List.length_take, eo]; simp)).symm, fun id a1 a2 a3 => by omega⟩
  · have hie : i = w.length := by simp at h; omega
    subst hie
    rw [List.take_length] at eo hx ⊢
    have hss := selL_sm hs hw
    have hsl : (selL l w).length ≤ 100 := by rw [selL_len]; omega
    have tk : (encTs (selL l w)).take w.length = encTs (selL l w) := List.take_of_length_le (by omega)
    have ec := len_encQs (cornP (selL l w))
    simp only [V_seq, V_ret, V_exit, V_region, W_nil, W_cons, effOp2, KN_seq, KXr_nil, KXe_nil, KXe_seq, KXe_block, KXe_back, QE, effOp, effPure, effCall, giveUp, hasAll, Option.isSome_some, pureV, binV, lenV, ofC, strip, lkT, lkH, ISt.app, opI, gO, gB, allB, gval, wrapG, dstOK, setD, lendV, lendP, lent, lentP, idsV, idsL, lkHS, flat, clean, callArgs, callFn, allLent, Gives, Ideal.Fin, conv, conv0, Op.operands, Call.operands, List.append_toArray, reduceIte, reduceCtorEq, cond_true, Bool.or_false, Bool.or_true, Bool.not_true, Nat.reduceLT, Nat.reduceEqDiff, Nat.zero_add, ne_eq, not_false_eq_true, true_and, and_true, and_self, implies_true, forall_const, List.map_cons, List.map_nil, List.nil_append, List.cons_append, List.append_nil, List.drop_zero, ex_clo, or_self, tab51, hN, isTs_enc, toTs_enc, lk_impl_empty_impl_corners_v, sp_impl_corners_v, eo, hsl, tk, ec, len_zero_empty]
    exact ⟨Nat.le_refl _, hss⟩
def sp_impl_empty : PSpec := ⟨fun xs => match xs with | [.sl 3 les, .sl 1 wes] => isTs les ∧ isIs wes ∧ ((fun (l : List Tr) (w : List Int) => ∀ k ∈ l, smH k) (toTs les) (toIs wes)) ∧ ((fun (l : List Tr) (w : List Int) => ∀ x ∈ w, 0 ≤ x ∧ x < (l.length : Int)) (toTs les) (toIs wes)) ∧ ((fun (l : List Tr) (w : List Int) => w.length ≤ 3) (toTs les) (toIs wes)) | _ => False, fun xs => match xs with | [.sl _ les, .sl _ wes] => (fun (l : List Tr) (w : List Int) => .bool (cornP (selL l w)).isEmpty) (toTs les) (toIs wes) | _ => .junk, false⟩
theorem gk_impl_empty : ∀ args, sp_impl_empty.pre args → ICall Try.prog 86 args (sp_impl_empty.val args) := by
  intro args h
  unfold sp_impl_empty at h ⊢; simp only at h ⊢; split at h
  · obtain ⟨h0, h1, h2, h3, h4⟩ := h
    obtain ⟨l0, rfl⟩ := isT_ex h0
    obtain ⟨l1, rfl⟩ := isI_ex h1
    simp only [toTs_enc, toIs_enc] at *
    exact c_impl_empty _ _ h2 h3 h4
  · exact h.elim
theorem en_impl_empty : Enters Try.prog 86 := enters_of Try.func86 (by kernel_rfl) rfl

def g_spec_selected : List (Nat × PSpec) := []
theorem gok_spec_selected : GOK Try.prog g_spec_selected := gok0
def h_spec_selected : List (Nat × HSpec) := []
theorem hok_spec_selected : HOK Try.prog h_spec_selected := hok0
theorem c_spec_selected (l : List Tr) (w : List Int) (hw : ∀ x ∈ w, 0 ≤ x ∧ x < (l.length : Int)) (hsz : w.length ≤ 3) : ICall Try.prog 83 [.sl 3 (encTs l), .sl 1 (encI w)] (.sl 3 (encTs (selL l w))) := by
  refine icall_V (G := g_spec_selected) (H := []) [] tabOK mixed gok_spec_selected hok_spec_selected Try.func83 rfl Try.ntmps83 Try.results83 rfl (by kernel_rfl) fun F hN hlen => ?_
  have el := len_encTs l
  have ew := len_encI w
  simp only [V_seq, V_block, V_region, W_nil, W_cons, effOp2, KN_seq, effOp, effPure, effNew, effBuildSlice, effFrz, frz, tmpsOf, skipE, pureV, ofC, strip, lkT, ISt.app, opI, gO, gB, allB, gval, wrapG, dstOK, setD, mentTm, mentHp, IV.ment, partsL, eltsI, enumT, Op.operands, reduceIte, reduceCtorEq, cond_true, Bool.or_false, Nat.reduceMul, Nat.reduceLT, Nat.reduceLeDiff, Nat.reduceEqDiff, Nat.zero_add, ne_eq, not_false_eq_true, true_and, and_self, implies_true, List.nil_append, List.cons_append, List.append_nil, List.length_nil, tab43, tab98, hN]
  refine V_loop (α := Nat) ⟨tabOK, mixed, gok_spec_selected, hok_spec_selected⟩ (by kernel_rfl) (fun i => i ≤ w.length) (fun i => ⟨[(6, .num .i64 i), (5, .ref 7 0 i true), (0, .sl 3 (encTs l)), (1, .sl 1 (encI w))], [(7, some (.arr 3 98 (encTs (selL l (w.take i)))))]⟩) (fun i => w.length - i) 0 id (Nat.zero_le _) (by simp [SLe, SLe0, convTm, convHp, convB, conv, conv0, lkT, lkH, clean, selL, encTs]) ?_
  intro i hi
  have eo : (encTs (selL l (w.take i))).length = i := by rw [len_encTs, selL_len, List.length_take]; omega
  have hx : ∃ k ty es, IBlk.arr 3 98 (encTs (selL l (w.take i))) = IBlk.arr k ty es := ⟨_, _, _, rfl⟩
  simp only [V_seq, V_region, V_cond, W_nil, W_cons, effOp2, KN_seq, asB, effOp, effPure, pureV, binV, lenV, strip, lkT, ISt.app, opI, gO, gB, allB, gval, wrapG, dstOK, setD, Op.operands, Call.operands, List.append_toArray, reduceIte, reduceCtorEq, Nat.reduceLT, Nat.reduceEqDiff, ne_eq, not_false_eq_true, true_and, and_self, implies_true, List.nil_append, List.cons_append, tab25, hN, ew]
  refine brW_some (fun h => ?_) (fun h => ?_)
  · have hi' : i < w.length := by simpa using h
    have hwi := wr_succ hi' (by rw [maxLen_eq]; omega)
    have g0 := getD_encI hi'
    have hb := hw (w.getD i 0) (by rw [List.getD, List.getElem?_eq_getElem hi']; exact List.getElem_mem hi')
    have hst := selL_step (l := l) hi'
    obtain ⟨x, hxx⟩ : ∃ x, w.getD i 0 = x := ⟨_, rfl⟩
    rw [hxx] at g0 hb hst
    obtain ⟨k, rfl⟩ : ∃ k : Nat, x = k := ⟨x.toNat, by omega⟩
    rw [Int.toNat_natCast] at hst
    have g1 := getD_encTs (l := l) (i := k) (by omega)
    obtain ⟨q, hq⟩ : ∃ q, tAt l k = q := ⟨_, rfl⟩
    rw [hq] at g1 hst
    have hen : encTs (selL l (w.take (i + 1))) = (encTs (selL l (w.take i))).take i ++ [IV.agg [.num .i64 q.1, .num .i64 q.2.1, .num .i64 q.2.2]] := by
      have ht : (encTs (selL l (w.take i))).take i = encTs (selL l (w.take i)) := List.take_of_length_le (by omega)
      rw [hst, ← encTs_app, ht]; rfl
    simp only [V_seq, V_skip, V_block, V_region, W_nil, W_cons, effOp2, KN_seq, KN_block, KN_back, effOp, effPure, effNew, effBuildSlice, effFrz, frz, tmpsOf, effAppend, effZeros, skipE, pureV, srcV, refId, binV, partV, eltV, loadV, iaddrV, ofC, strip, lkT, lkH, ISt.app, opI, gO, gB, allB, gval, wrapG, dstOK, setD, mentTm, mentHp, IV.ment, IV.mentL, partsL, eltsI, eltI, oneI, noId', Op.operands, reduceIte, reduceCtorEq, cond_true, Bool.or_false, Bool.and_true, Nat.reduceAdd, Nat.reduceMul, Nat.reduceLT, Nat.reduceLeDiff, Nat.reduceEqDiff, Nat.reduceBEq, Nat.zero_add, ne_eq, not_false_eq_true, true_and, and_true, and_false, and_self, implies_true, forall_const, List.nil_append, List.cons_append, List.append_nil, List.all_cons, List.all_nil, Option.some.injEq, List.getD_cons_zero, List.length_cons, List.length_nil, List.take_succ_cons, List.take_nil, List.drop_zero, tab3, tab25, tab43, tab98, hN, Int.toNat_natCast, el, ew, hwi, g0, g1, eo]
    repeat refine And.intro (by first | omega | (simp; done) | (simp; omega)) ?_
    refine ⟨i + 1, fun x => if x = 7 then 23 else x, by simp only []; omega, by simp only []; omega, ?_⟩
    simp only [hen]
    simp [SLe, SLe0, convTm, convHp, convB, conv, conv0, lkT, lkH, clean]
    exact ⟨(List.take_of_length_le (by rw [List.length_append, List.length_take, eo]; simp)).symm, fun id a1 a2 a3 => by omega⟩
  · have hie : i = w.length := by simp at h; omega
    subst hie
    rw [List.take_length] at eo hx ⊢
    simp only [V_seq, V_ret, V_exit, V_region, W_nil, W_cons, effOp2, KN_seq, KXr_nil, KXe_nil, KXe_seq, KXe_block, KXe_back, QE, effOp, effPure, pureV, strip, lkT, lkH, ISt.app, opI, gO, gB, allB, gval, wrapG, dstOK, setD, Gives, Ideal.Fin, conv, conv0, Op.operands, reduceIte, reduceCtorEq, Nat.reduceLT, Nat.reduceEqDiff, Nat.zero_add, ne_eq, true_and, and_self, implies_true, List.nil_append, List.cons_append, Option.some.injEq, List.drop_zero, hN]
    exact ⟨_, _, rfl, by omega, (List.take_of_length_le (by omega)).symm, by simp⟩
def sp_spec_selected : PSpec := ⟨fun xs => match xs with | [.sl 3 les, .sl 1 wes] => isTs les ∧ isIs wes ∧ ((fun (l : List Tr) (w : List Int) => ∀ x ∈ w, 0 ≤ x ∧ x < (l.length : Int)) (toTs les) (toIs wes)) ∧ ((fun (l : List Tr) (w : List Int) => w.length ≤ 3) (toTs les) (toIs wes)) | _ => False, fun xs => match xs with | [.sl _ les, .sl _ wes] => (fun (l : List Tr) (w : List Int) => .sl 3 (encTs (selL l w))) (toTs les) (toIs wes) | _ => .junk, false⟩
theorem gk_spec_selected : ∀ args, sp_spec_selected.pre args → ICall Try.prog 83 args (sp_spec_selected.val args) := by
  intro args h
  unfold sp_spec_selected at h ⊢; simp only at h ⊢; split at h
  · obtain ⟨h0, h1, h2, h3⟩ := h
    obtain ⟨l0, rfl⟩ := isT_ex h0
    obtain ⟨l1, rfl⟩ := isI_ex h1
    simp only [toTs_enc, toIs_enc] at *
    exact c_spec_selected _ _ h2 h3
  · exact h.elim
theorem en_spec_selected : Enters Try.prog 83 := enters_of Try.func83 (by kernel_rfl) rfl


/-- Is the region of at most three half-planes empty? -/
def ckB (l : List Tr) (w : List Int) : Bool := okHs l && (decide (w.length ≤ 3) && ((w.all fun k => inR k 0 ((l.length : Int) - 1)) && (cornP (selL l w)).isEmpty))
theorem ck_in {l : List Tr} {w : List Int} (h : (w.all fun k => inR k 0 ((l.length : Int) - 1)) = true) : ∀ x ∈ w, 0 ≤ x ∧ x < (l.length : Int) := by
  intro x hx
  have := List.all_eq_true.1 h x hx
  simp only [inR, Bool.and_eq_true, decide_eq_true_eq] at this
  omega
def g_impl_CheckEmpty : List (Nat × PSpec) := [(38, sp_impl_ValidHalves), (86, sp_impl_empty)]
theorem gok_impl_CheckEmpty : GOK Try.prog g_impl_CheckEmpty := gok_cons gk_impl_ValidHalves en_impl_ValidHalves (gok_cons gk_impl_empty en_impl_empty (gok0))
theorem lk_impl_CheckEmpty_impl_ValidHalves : lkG g_impl_CheckEmpty 38 = sp_impl_ValidHalves := rfl
theorem lk_impl_CheckEmpty_impl_empty : lkG g_impl_CheckEmpty 86 = sp_impl_empty := rfl
def h_impl_CheckEmpty : List (Nat × HSpec) := [(90, hs_slices_ContainsFunc_int_int_chk)]
theorem hok_impl_CheckEmpty : HOK Try.prog h_impl_CheckEmpty := hok_cons hk_slices_ContainsFunc_int_int_chk en_slices_ContainsFunc_int_int_chk (hok0)
theorem lh_impl_CheckEmpty_impl_ValidHalves : lkHS h_impl_CheckEmpty 38 = none := rfl
theorem lh_impl_CheckEmpty_impl_empty : lkHS h_impl_CheckEmpty 86 = none := rfl
theorem lh_impl_CheckEmpty_slices_ContainsFunc_int_int_chk : lkHS h_impl_CheckEmpty 90 = some hs_slices_ContainsFunc_int_int_chk := rfl
theorem c_impl_CheckEmpty (l : List Tr) (w : List Int)  : ICall Try.prog 34 [.sl 3 (encTs l), .sl 1 (encI w)] (.bool (ckB l w)) := by
  refine icall_V (G := g_impl_CheckEmpty) (H := h_impl_CheckEmpty) [] tabOK mixed gok_impl_CheckEmpty hok_impl_CheckEmpty Try.func34 rfl Try.ntmps34 Try.results34 rfl (by kernel_rfl) fun F hN hlen => ?_
  have hv : ckB l w = (okHs l && (decide (w.length ≤ 3) && ((w.all fun k => inR k 0 ((l.length : Int) - 1)) && (cornP (selL l w)).isEmpty))) := rfl
  have el := len_encTs l
  have ew := len_encI w
  cases h1 : okHs l with
  | false =>
    rw [h1, Bool.false_and] at hv
    simp only [V_seq, V_ret, V_region, V_cond, brW_true, W_nil, W_cons, effOp2, KN_seq, KXr_nil, KXr_seq, QE, asB, effOp, effPure, effPick, effNew, effBox, effCall, giveUp, hasAll, skipE, pureV, pickV, binV, partV, loadV, lenV, solid, IV.cells, ofC, strip, lkT, lkH, ISt.app, opI, gO, gB, allB, gval, wrapG, dstOK, setD, mentTm, mentHp, IV.ment, oneI, lendV, lendP, lent, lentP, idsV, idsL, flat, clean, callArgs, callFn, allLent, enumT, Gives, Ideal.Fin, conv, conv0, Op.operands, Call.operands, List.append_toArray, reduceIte, reduceCtorEq, cond_true, Bool.or_false, Bool.and_true, Bool.not_true, Bool.not_false, Nat.reduceLT, Nat.reduceLeDiff, Nat.reduceEqDiff, Nat.zero_add, ne_eq, not_false_eq_true, and_true, and_self, false_implies, implies_true, List.map_cons, List.map_nil, List.nil_append, List.cons_append, List.append_nil, List.all_cons, List.all_nil, Option.bind_some, List.getElem?_cons_zero, List.getElem?_cons_succ, List.getD_cons_zero, List.length_cons, List.length_nil, List.take_succ_cons, List.take_nil, List.drop_zero, ex_clo, btf, or_self, Bool.true_eq_false, Bool.false_eq_true, tab25, tab43, hN, isTs_enc, toTs_enc, lk_impl_CheckEmpty_impl_ValidHalves, sp_impl_ValidHalves, lh_impl_CheckEmpty_impl_ValidHalves, h1, ew, hv]
  | true =>
    have hlen8 := okHs_len h1
    have hsm := okHs_sm h1
    rw [h1, Bool.true_and] at hv
    cases h2 : decide ((3 : Int) < (w.length : Int)) with
    | true =>
      have h3 : decide (w.length ≤ 3) = false := by simp at h2 ⊢; omega
      rw [h3, Bool.false_and] at hv
      simp only [V_seq, V_ret, V_region, V_cond, brW_true, W_nil, W_cons, effOp2, KN_seq, KXr_nil, KXr_seq, QE, asB, effOp, effPure, effPick, effNew, effBox, effCall, giveUp, hasAll, skipE, pureV, pickV, binV, partV, loadV, lenV, solid, IV.cells, ofC, strip, lkT, lkH, ISt.app, opI, gO, gB, allB, gval, wrapG, dstOK, setD, mentTm, mentHp, IV.ment, oneI, lendV, lendP, lent, lentP, idsV, idsL, flat, clean, callArgs, callFn, allLent, enumT, Gives, Ideal.Fin, conv, conv0, Op.operands, Call.operands, List.append_toArray, reduceIte, reduceCtorEq, cond_true, cond_false, Bool.or_false, Bool.and_true, Bool.not_true, Nat.reduceLT, Nat.reduceLeDiff, Nat.reduceEqDiff, Nat.zero_add, ne_eq, not_false_eq_true, beq_self_eq_true, and_self, implies_true, List.map_cons, List.map_nil, List.nil_append, List.cons_append, List.append_nil, List.all_cons, List.all_nil, Option.bind_some, List.getElem?_cons_zero, List.getElem?_cons_succ, List.getD_cons_zero, List.length_cons, List.length_nil, List.take_succ_cons, List.take_nil, List.drop_zero, ex_clo, or_self, Bool.false_eq_true, tab25, tab43, hN, isTs_enc, toTs_enc, lk_impl_CheckEmpty_impl_ValidHalves, sp_impl_ValidHalves, lh_impl_CheckEmpty_impl_ValidHalves, h1, ew, h2, hv]
    | false =>
      have hw3 : w.length ≤ 3 := by simp at h2; omega
      have h3 : decide (w.length ≤ 3) = true := by simpa using hw3
      rw [h3, Bool.true_and] at hv
      have z1 : l.length ≤ 1000000 := by omega
      have z2 : w.length ≤ 1000000 := by omega
      have han := any_not_all w (fun k => inR k 0 ((l.length : Int) - 1))
      cases h4 : (w.all fun k => inR k 0 ((l.length : Int) - 1)) with
      | false =>
        rw [h4] at han
        rw [h4, Bool.false_and] at hv
        simp only [V_seq, V_skip, V_ret, V_region, V_cond, brW_true, brW_false, W_nil, W_cons, effOp2, KN_seq, KXr_nil, KXr_seq, QE, asB, effOp, effPure, effPick, effNew, effBox, effCall, giveUp, hasAll, Option.isSome_some, skipE, pureV, pickV, binV, partV, loadV, lenV, solid, IV.cells, ofC, strip, lkT, lkH, ISt.app, opI, gO, gB, allB, gval, wrapG, dstOK, setD, mentTm, mentHp, IV.ment, IV.mentL, oneI, lendV, lendP, lent, lentP, idsV, idsL, flat, clean, callArgs, callFn, allLent, enumT, Gives, Ideal.Fin, conv, conv0, convL, IBlk.shape, Op.operands, Call.operands, List.append_toArray, reduceIte, reduceCtorEq, cond_true, cond_false, Bool.or_false, Bool.or_true, Bool.and_true, Bool.not_true, Bool.not_false, Nat.reduceAdd, Nat.reduceSub, Nat.reduceMul, Nat.reduceLT, Nat.reduceLeDiff, Nat.reduceEqDiff, Nat.zero_add, ne_eq, not_false_eq_true, beq_self_eq_true, and_false, and_self, implies_true, List.map_cons, List.map_nil, List.nil_append, List.cons_append, List.append_nil, List.all_cons, List.all_nil, Option.map_some, Option.bind_some, List.getElem?_cons_zero, List.getElem?_cons_succ, List.getD_cons_zero, List.length_cons, List.length_nil, List.take_succ_cons, List.take_nil, List.drop_zero, ex_clo, or_self, Bool.true_eq_false, Bool.false_eq_true, tab25, tab43, hN, isTs_enc, toTs_enc, isIs_enc, toIs_enc, SLe0, convTm, convHp, convB, sm, effH, mkHC0, mkHC1, lendM, lentM, lentI, allHere, addIds, idsB, flatIds, reach, posn, renV, renL, renB, renH, numB, subHp, fwd, bk, bwd, nones, keyOK, noSl, noSlL, flatBs, List.contains, List.elem, Option.isSome_some, List.nodup_nil, List.nodup_cons, List.not_mem_nil, or_false, Option.getD_some, lk_impl_CheckEmpty_impl_ValidHalves, sp_impl_ValidHalves, lh_impl_CheckEmpty_impl_ValidHalves, lh_impl_CheckEmpty_slices_ContainsFunc_int_int_chk, hs_slices_ContainsFunc_int_int_chk, h1, ew, h2, z1, z2, han, hv]
      | true =>
        rw [h4] at han
        rw [h4, Bool.true_and] at hv
        have hin := ck_in h4
        simp only [V_seq, V_skip, V_ret, V_region, V_cond, brW_false, W_nil, W_cons, effOp2, KN_seq, KXr_nil, QE, asB, effOp, effPure, effPick, effNew, effBox, effCall, giveUp, hasAll, Option.isSome_some, skipE, pureV, pickV, binV, partV, loadV, lenV, solid, IV.cells, ofC, strip, lkT, lkH, ISt.app, opI, gO, gB, allB, gval, wrapG, dstOK, setD, mentTm, mentHp, IV.ment, IV.mentL, oneI, lendV, lendP, lent, lentP, idsV, idsL, flat, clean, callArgs, callFn, allLent, enumT, Gives, Ideal.Fin, conv, conv0, convL, IBlk.shape, Op.operands, Call.operands, List.append_toArray, reduceIte, reduceCtorEq, cond_true, cond_false, Bool.or_false, Bool.or_true, Bool.and_true, Bool.not_true, Nat.reduceAdd, Nat.reduceSub, Nat.reduceMul, Nat.reduceLT, Nat.reduceLeDiff, Nat.reduceEqDiff, Nat.zero_add, ne_eq, not_false_eq_true, beq_self_eq_true, true_and, and_true, and_false, and_self, implies_true, forall_const, List.map_cons, List.map_nil, List.nil_append, List.cons_append, List.append_nil, List.all_cons, List.all_nil, Option.map_some, Option.bind_some, List.getElem?_cons_zero, List.getElem?_cons_succ, List.getD_cons_zero, List.length_cons, List.length_nil, List.take_succ_cons, List.take_nil, List.drop_zero, ex_clo, or_self, Bool.true_eq_false, Bool.false_eq_true, tab25, tab43, hN, isTs_enc, toTs_enc, isIs_enc, toIs_enc, SLe0, convTm, convHp, convB, sm, effH, mkHC0, mkHC1, lendM, lentM, lentI, allHere, addIds, idsB, flatIds, reach, posn, renV, renL, renB, renH, numB, subHp, fwd, bk, bwd, nones, keyOK, noSl, noSlL, flatBs, List.contains, List.elem, Option.isSome_some, List.nodup_nil, List.nodup_cons, List.not_mem_nil, or_false, Option.getD_some, lk_impl_CheckEmpty_impl_ValidHalves, lk_impl_CheckEmpty_impl_empty, sp_impl_ValidHalves, sp_impl_empty, lh_impl_CheckEmpty_impl_ValidHalves, lh_impl_CheckEmpty_impl_empty, lh_impl_CheckEmpty_slices_ContainsFunc_int_int_chk, hs_slices_ContainsFunc_int_int_chk, h1, ew, h2, z1, z2, han, hv, hw3]
        exact ⟨hsm, hin⟩
def sp_impl_CheckEmpty : PSpec := ⟨fun xs => match xs with | [.sl 3 les, .sl 1 wes] => isTs les ∧ isIs wes | _ => False, fun xs => match xs with | [.sl _ les, .sl _ wes] => (fun (l : List Tr) (w : List Int) => .bool (ckB l w)) (toTs les) (toIs wes) | _ => .junk, false⟩
theorem gk_impl_CheckEmpty : ∀ args, sp_impl_CheckEmpty.pre args → ICall Try.prog 34 args (sp_impl_CheckEmpty.val args) := by
  intro args h
  unfold sp_impl_CheckEmpty at h ⊢; simp only at h ⊢; split at h
  · obtain ⟨h0, h1⟩ := h
    obtain ⟨l0, rfl⟩ := isT_ex h0
    obtain ⟨l1, rfl⟩ := isI_ex h1
    simp only [toTs_enc, toIs_enc] at *
    exact c_impl_CheckEmpty _ _ 
  · exact h.elim
theorem en_impl_CheckEmpty : Enters Try.prog 34 := enters_of Try.func34 (by kernel_rfl) rfl

def g_spec_CheckEmpty : List (Nat × PSpec) := [(80, sp_spec_validHalves), (93, sp_spec_inRange), (83, sp_spec_selected), (81, sp_spec_corners)]
theorem gok_spec_CheckEmpty : GOK Try.prog g_spec_CheckEmpty := gok_cons gk_spec_validHalves en_spec_validHalves (gok_cons gk_spec_inRange en_spec_inRange (gok_cons gk_spec_selected en_spec_selected (gok_cons gk_spec_corners en_spec_corners (gok0))))
theorem lk_spec_CheckEmpty_spec_validHalves : lkG g_spec_CheckEmpty 80 = sp_spec_validHalves := rfl
theorem lk_spec_CheckEmpty_spec_inRange : lkG g_spec_CheckEmpty 93 = sp_spec_inRange := rfl
theorem lk_spec_CheckEmpty_spec_selected : lkG g_spec_CheckEmpty 83 = sp_spec_selected := rfl
theorem lk_spec_CheckEmpty_spec_corners : lkG g_spec_CheckEmpty 81 = sp_spec_corners := rfl
def h_spec_CheckEmpty : List (Nat × HSpec) := []
theorem hok_spec_CheckEmpty : HOK Try.prog h_spec_CheckEmpty := hok0
theorem c_spec_CheckEmpty (l : List Tr) (w : List Int)  : ICall Try.prog 35 [.sl 3 (encTs l), .sl 1 (encI w)] (.bool (ckB l w)) := by
  refine icall_V (G := g_spec_CheckEmpty) (H := []) [] tabOK mixed gok_spec_CheckEmpty hok_spec_CheckEmpty Try.func35 rfl Try.ntmps35 Try.results35 rfl (by kernel_rfl) fun F hN hlen => ?_
  have hv : ckB l w = (okHs l && (decide (w.length ≤ 3) && ((w.all fun k => inR k 0 ((l.length : Int) - 1)) && (cornP (selL l w)).isEmpty))) := rfl
  have el := len_encTs l
  have ew := len_encI w
  cases h1 : okHs l with
  | false =>
    rw [h1, Bool.false_and] at hv
    simp only [V_seq, V_ret, V_region, V_cond, brW_true, W_nil, W_cons, effOp2, KN_seq, KXr_nil, KXr_seq, QE, asB, effOp, effPure, effPick, effCall, giveUp, hasAll, pureV, pickV, binV, lenV, ofC, strip, lkT, lkH, ISt.app, opI, gO, gB, allB, gval, wrapG, dstOK, setD, lendV, lendP, lent, lentP, idsV, idsL, lkHS, flat, clean, callArgs, callFn, allLent, enumT, Gives, Ideal.Fin, conv, conv0, Op.operands, Call.operands, List.append_toArray, reduceIte, reduceCtorEq, cond_true, Bool.or_false, Bool.not_true, Bool.not_false, Nat.reduceLT, Nat.reduceEqDiff, Nat.zero_add, ne_eq, not_false_eq_true, and_true, and_self, false_implies, implies_true, List.map_cons, List.map_nil, List.nil_append, List.cons_append, List.append_nil, Option.bind_some, List.getElem?_cons_zero, List.getElem?_cons_succ, ex_clo, btf, or_self, Bool.true_eq_false, Bool.false_eq_true, tab25, hN, isTs_enc, toTs_enc, lk_spec_CheckEmpty_spec_validHalves, sp_spec_validHalves, h1, ew, hv]
  | true =>
    have hlen8 := okHs_len h1
    have hsm := okHs_sm h1
    rw [h1, Bool.true_and] at hv
    cases h2 : decide ((3 : Int) < (w.length : Int)) with
    | true =>
      have h3 : decide (w.length ≤ 3) = false := by simp at h2 ⊢; omega
      rw [h3, Bool.false_and] at hv
      simp only [V_seq, V_ret, V_region, V_cond, brW_true, W_nil, W_cons, effOp2, KN_seq, KXr_nil, KXr_seq, QE, asB, effOp, effPure, effPick, effCall, giveUp, hasAll, pureV, pickV, binV, lenV, ofC, strip, lkT, lkH, ISt.app, opI, gO, gB, allB, gval, wrapG, dstOK, setD, lendV, lendP, lent, lentP, idsV, idsL, lkHS, flat, clean, callArgs, callFn, allLent, enumT, Gives, Ideal.Fin, conv, conv0, Op.operands, Call.operands, List.append_toArray, reduceIte, reduceCtorEq, cond_true, cond_false, Bool.or_false, Bool.not_true, Nat.reduceLT, Nat.reduceEqDiff, Nat.zero_add, ne_eq, not_false_eq_true, beq_self_eq_true, and_self, implies_true, List.map_cons, List.map_nil, List.nil_append, List.cons_append, List.append_nil, Option.bind_some, List.getElem?_cons_zero, List.getElem?_cons_succ, ex_clo, or_self, Bool.false_eq_true, tab25, hN, isTs_enc, toTs_enc, lk_spec_CheckEmpty_spec_validHalves, sp_spec_validHalves, h1, ew, h2, hv]
    | false =>
      have hw3 : w.length ≤ 3 := by simp at h2; omega
      have h3 : decide (w.length ≤ 3) = true := by simpa using hw3
      rw [h3, Bool.true_and] at hv
      have w0 : IntKind.i64.wrap ((l.length : Int) - 1) = (l.length : Int) - 1 := wr (by omega) (by omega)
      simp only [V_seq, V_skip, V_block, V_region, V_cond, brW_false, W_nil, W_cons, effOp2, KN_seq, asB, effOp, effPure, effPick, effCall, giveUp, hasAll, pureV, pickV, binV, lenV, ofC, strip, lkT, lkH, ISt.app, opI, gO, gB, allB, gval, wrapG, dstOK, setD, lendV, lendP, lent, lentP, idsV, idsL, lkHS, flat, clean, callArgs, callFn, allLent, enumT, Op.operands, Call.operands, List.append_toArray, reduceIte, reduceCtorEq, cond_true, cond_false, Bool.or_false, Bool.not_true, Nat.reduceLT, Nat.reduceEqDiff, Nat.zero_add, ne_eq, not_false_eq_true, beq_self_eq_true, true_and, and_self, implies_true, List.map_cons, List.map_nil, List.nil_append, List.cons_append, List.append_nil, Option.bind_some, List.getElem?_cons_zero, List.getElem?_cons_succ, ex_clo, or_self, Bool.false_eq_true, tab25, hN, isTs_enc, toTs_enc, lk_spec_CheckEmpty_spec_validHalves, sp_spec_validHalves, h1, ew, h2]
      refine V_loop (α := Nat) ⟨tabOK, mixed, gok_spec_CheckEmpty, hok_spec_CheckEmpty⟩ (by kernel_rfl) (fun i => i ≤ w.length ∧ (w.all fun k => inR k 0 ((l.length : Int) - 1)) = ((w.drop i).all fun k => inR k 0 ((l.length : Int) - 1))) (fun i => ⟨[(5, .num .i64 i), (0, .sl 3 (encTs l)), (1, .sl 1 (encI w))], []⟩) (fun i => w.length - i) 0 id ⟨Nat.zero_le _, rfl⟩ (by simp [SLe, SLe0, convTm, convHp, conv, conv0, lkT, lkH, clean]) ?_
      rintro i ⟨hi, hj⟩
      simp only [V_seq, V_region, V_cond, W_nil, W_cons, effOp2, KN_seq, asB, effOp, effPure, pureV, binV, lenV, strip, lkT, ISt.app, opI, gO, gB, allB, gval, wrapG, dstOK, setD, Op.operands, Call.operands, List.append_toArray, reduceIte, reduceCtorEq, Nat.reduceLT, Nat.reduceEqDiff, ne_eq, not_false_eq_true, true_and, and_self, implies_true, List.nil_append, List.cons_append, List.append_nil, tab25, hN, ew]
      refine brW_some (fun h => ?_) (fun h => ?_)
      · have hi' : i < w.length := by simpa using h
        have hwi := wr_succ hi' (by rw [maxLen_eq]; omega)
        have g0 := getD_encI hi'
        have hst := all_step (p := fun k => inR k 0 ((l.length : Int) - 1)) (d := 0) hi'
        obtain ⟨x, hxx⟩ : ∃ x, w.getD i 0 = x := ⟨_, rfl⟩
        rw [hxx] at g0 hst
        cases hb : inR x 0 ((l.length : Int) - 1) with
        | true =>
          rw [hb, Bool.true_and] at hst
          simp only [V_seq, V_skip, V_block, V_region, V_cond, brW_false, W_nil, W_cons, effOp2, KN_seq, KN_block, KN_back, asB, effOp, effPure, effCall, giveUp, hasAll, pureV, binV, eltV, loadV, iaddrV, lenV, ofC, strip, lkT, lkH, ISt.app, opI, gO, gB, allB, gval, wrapG, dstOK, setD, lendV, lendP, lent, lentP, idsV, idsL, lkHS, flat, clean, callArgs, callFn, allLent, Op.operands, Call.operands, List.append_toArray, reduceIte, reduceCtorEq, cond_true, Bool.or_false, Bool.not_true, Nat.reduceLT, Nat.reduceEqDiff, ne_eq, not_false_eq_true, true_and, and_true, and_self, implies_true, forall_const, List.map_cons, List.map_nil, List.nil_append, List.cons_append, List.append_nil, ex_clo, or_self, tab3, tab25, tab43, hN, Int.toNat_natCast, lk_spec_CheckEmpty_spec_inRange, sp_spec_inRange, el, ew, g0, w0, hwi, hb]
          exact ⟨⟨by omega, by omega⟩, i + 1, id, ⟨by omega, hj.trans hst⟩, by simp only []; omega, by simp [SLe, SLe0, convTm, convHp, conv, conv0, lkT, lkH, clean]⟩
        | false =>
          rw [hb, Bool.false_and] at hst
          rw [hj.trans hst, Bool.false_and] at hv
          simp only [V_seq, V_skip, V_ret, V_block, V_region, V_cond, brW_true, W_nil, W_cons, effOp2, KN_seq, KXr_nil, KXr_seq, KXr_block, KXr_back, QE, asB, effOp, effPure, effCall, giveUp, hasAll, pureV, binV, eltV, loadV, iaddrV, lenV, ofC, strip, lkT, lkH, ISt.app, opI, gO, gB, allB, gval, wrapG, dstOK, setD, lendV, lendP, lent, lentP, idsV, idsL, lkHS, flat, clean, callArgs, callFn, allLent, Gives, Ideal.Fin, conv, conv0, Op.operands, Call.operands, List.append_toArray, reduceIte, reduceCtorEq, cond_true, Bool.or_false, Bool.not_true, Bool.not_false, Nat.reduceLT, Nat.reduceEqDiff, ne_eq, not_false_eq_true, true_and, and_true, and_self, implies_true, forall_const, List.map_cons, List.map_nil, List.nil_append, List.cons_append, List.append_nil, ex_clo, or_self, tab3, tab25, tab43, hN, Int.toNat_natCast, lk_spec_CheckEmpty_spec_inRange, sp_spec_inRange, el, ew, g0, w0, hb, hv]
          omega
      · have hie : i = w.length := by simp at h; omega
        subst hie
        rw [List.drop_length, List.all_nil] at hj
        rw [hj, Bool.true_and] at hv
        have hin := ck_in hj
        have hss := selL_sm hsm hin
        have hsl : (selL l w).length ≤ 100 := by rw [selL_len]; omega
        have ec := len_encQs (cornP (selL l w))
        simp only [V_seq, V_ret, V_exit, V_region, W_nil, W_cons, effOp2, KN_seq, KXr_nil, KXe_nil, KXe_seq, KXe_block, KXe_back, QE, effOp, effPure, effCall, giveUp, hasAll, pureV, binV, lenV, ofC, strip, lkT, lkH, ISt.app, opI, gO, gB, allB, gval, wrapG, dstOK, setD, lendV, lendP, lent, lentP, idsV, idsL, lkHS, flat, clean, callArgs, callFn, allLent, Gives, Ideal.Fin, conv, conv0, Op.operands, Call.operands, List.append_toArray, reduceIte, reduceCtorEq, cond_false, Bool.or_false, Bool.not_true, Nat.reduceLT, Nat.reduceEqDiff, ne_eq, not_false_eq_true, true_and, and_true, and_self, implies_true, forall_const, List.map_cons, List.map_nil, List.nil_append, List.cons_append, List.append_nil, ex_clo, or_true, Bool.false_eq_true, tab51, hN, isTs_enc, toTs_enc, isIs_enc, toIs_enc, lk_spec_CheckEmpty_spec_selected, lk_spec_CheckEmpty_spec_corners, sp_spec_selected, sp_spec_corners, hw3, hsl, ec, len_zero_empty, hv]
        exact ⟨hin, hss⟩
def sp_spec_CheckEmpty : PSpec := ⟨fun xs => match xs with | [.sl 3 les, .sl 1 wes] => isTs les ∧ isIs wes | _ => False, fun xs => match xs with | [.sl _ les, .sl _ wes] => (fun (l : List Tr) (w : List Int) => .bool (ckB l w)) (toTs les) (toIs wes) | _ => .junk, false⟩
theorem gk_spec_CheckEmpty : ∀ args, sp_spec_CheckEmpty.pre args → ICall Try.prog 35 args (sp_spec_CheckEmpty.val args) := by
  intro args h
  unfold sp_spec_CheckEmpty at h ⊢; simp only at h ⊢; split at h
  · obtain ⟨h0, h1⟩ := h
    obtain ⟨l0, rfl⟩ := isT_ex h0
    obtain ⟨l1, rfl⟩ := isI_ex h1
    simp only [toTs_enc, toIs_enc] at *
    exact c_spec_CheckEmpty _ _ 
  · exact h.elim
theorem en_spec_CheckEmpty : Enters Try.prog 35 := enters_of Try.func35 (by kernel_rfl) rfl

end Go.Proofs.Ytemppebemahkoaa
