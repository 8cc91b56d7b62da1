/- impl.EmptyWitness with its result as own memory. -/
import Derived.Test.YtemppebemahkoaaB63
set_option linter.unusedVariables false
set_option linter.unusedSimpArgs false
set_option maxHeartbeats 16000000
set_option maxRecDepth 100000
namespace Go.Proofs.Ytemppebemahkoaa
open Go Go.Ideal Go.Pl Go.Sort

theorem ewV_ok {l : List Tr} (h : (ewV l).isSome = true) : okHs l = true := by
  cases hk : okHs l with
  | true => rfl
  | false => rw [ewV, hk] at h; cases h
def g_impl_EmptyWitness_h : List (Nat × PSpec) := [(38, sp_impl_ValidHalves)]
theorem gok_impl_EmptyWitness_h : GOK Try.prog g_impl_EmptyWitness_h := gok_cons gk_impl_ValidHalves en_impl_ValidHalves (gok0)
theorem lk_impl_EmptyWitness_h_impl_ValidHalves : lkG g_impl_EmptyWitness_h 38 = sp_impl_ValidHalves := rfl
def h_impl_EmptyWitness_h : List (Nat × HSpec) := [(87, hs_slices_Clip_int_int), (85, hs_impl_EmptyWitness_1)]
theorem hok_impl_EmptyWitness_h : HOK Try.prog h_impl_EmptyWitness_h := hok_cons hk_slices_Clip_int_int en_slices_Clip_int_int (hok_cons hk_impl_EmptyWitness_1 en_impl_EmptyWitness_1 (hok0))
theorem lh_impl_EmptyWitness_h_impl_ValidHalves : lkHS h_impl_EmptyWitness_h 38 = none := rfl
theorem lh_impl_EmptyWitness_h_slices_Clip_int_int : lkHS h_impl_EmptyWitness_h 87 = some hs_slices_Clip_int_int := rfl
theorem lh_impl_EmptyWitness_h_impl_EmptyWitness_1 : lkHS h_impl_EmptyWitness_h 85 = some hs_impl_EmptyWitness_1 := rfl
theorem c_impl_EmptyWitness_h (l : List Tr) (hsome : (ewV l).isSome = true) : HCall Try.prog 30 [.sl 3 (encTs l)] (sm ([])) (.tup [.ref 0 0 ((ewV l).getD []).length false, .bool true]) (sm ([(0, .arr 1 3 (encN ((ewV l).getD [])))])) := by
  refine hcall_V (G := g_impl_EmptyWitness_h) (H := h_impl_EmptyWitness_h) [] tabOK mixed gok_impl_EmptyWitness_h hok_impl_EmptyWitness_h Try.func30 rfl Try.ntmps30 Try.results30 rfl (by kernel_rfl) fun F hN hlen => ?_
  simp only [sm]
  have hk := ewV_ok hsome
  have hs := okHs_sm hk
  have hl : l.length ≤ 8 := by simp [okHs] at hk; exact hk.2
  have hv : ewV l = srchP (empB l) l.length := by rw [ewV, hk]; rfl
  have hd := srch_dfs (empB l) l.length
  have e0 : encN [] = [] := rfl
  simp only [V_seq, V_skip, V_block, V_region, V_cond, brW_false, W_nil, W_cons, effOp2, KN_seq, asB, effOp, effPure, effNew, effAlloc, effBox, effBuildSlice, effFrz, frz, tmpsOf, effStore, effCall, giveUp, hasAll, skipE, pureV, storeV, partV, loadV, over, solid, IV.cells, ofC, strip, lkT, lkH, ISt.app, opI, gO, gB, allB, gval, wrapG, dstOK, setD, mentTm, mentHp, IV.ment, IV.mentL, partsL, eltsI, oneI, lendV, lendP, lent, lentP, idsV, idsL, flat, clean, callArgs, callFn, allLent, enumT, Op.operands, List.append_toArray, reduceIte, reduceCtorEq, cond_true, Bool.or_false, Bool.and_true, Bool.not_true, Nat.reduceMul, Nat.reduceLT, Nat.reduceLeDiff, Nat.reduceEqDiff, Nat.reduceBEq, Nat.zero_add, ne_eq, not_false_eq_true, true_and, and_self, implies_true, List.map_cons, List.map_nil, List.nil_append, List.cons_append, List.append_nil, List.all_cons, List.all_nil, List.getD_cons_zero, List.length_cons, List.length_nil, List.take_succ_cons, List.take_zero, List.take_nil, List.drop_succ_cons, List.drop_zero, List.drop_nil, ex_clo, or_self, tab3, tab25, tab43, tab101, hN, isTs_enc, toTs_enc, lk_impl_EmptyWitness_h_impl_ValidHalves, sp_impl_ValidHalves, lh_impl_EmptyWitness_h_impl_ValidHalves, hk]
  have z0 : Int.toNat 0 = 0 := rfl
  have i0 : isNs ([] : List IV) = True := isNs_enc []
  have tn : toNs ([] : List IV) = [] := rfl
  have hds := srch_dfs (empB l) l.length
  rw [← hv] at hds
  refine V_loop (α := Nat) ⟨tabOK, mixed, gok_impl_EmptyWitness_h, hok_impl_EmptyWitness_h⟩ (by kernel_rfl) (fun i => 1 ≤ i ∧ i ≤ 4 ∧ ∀ s, 1 ≤ s → s < i → dfs (empB l) l.length s [] 0 = none) (fun i => ⟨[(6, .num .i64 i), (4, .ptr 4 0), (5, .ptr 5 0)], [(4, some (.box 25 [.ref 9 0 0 true])), (1, some (.box 43 [.sl 3 (encTs l)])), (5, some (.box 101 [.clo 85 [.ptr 4 0, .ptr 1 0, .ptr 5 0]])), (9, some (.arr 1 3 []))]⟩) (fun i => 4 - i) 1 (fun z => if z = 9 then 10 else z) ⟨by omega, by omega, fun s h1 h2 => by omega⟩ (by simp [SLe, SLe0, convTm, convHp, convB, conv, conv0, convL, lkT, lkH, clean]; intro id h1 _ h3; omega) ?_
  rintro i ⟨hi1, hi4, hno⟩
  simp only [V_seq, V_region, V_cond, W_nil, W_cons, effOp2, KN_seq, asB, effOp, effPure, pureV, binV, ofC, strip, lkT, ISt.app, opI, gO, gB, allB, gval, wrapG, dstOK, setD, Op.operands, reduceIte, Nat.reduceLT, Nat.reduceEqDiff, true_and, and_self, implies_true, List.nil_append, List.cons_append, hN]
  refine brW_some (fun h => ?_) (fun h => ?_)
  · have hi : i ≤ 3 := by have := of_decide_eq_true h; omega
    have hw : IntKind.i64.wrap (((i : Nat) : Int) + 1) = ((i + 1 : Nat) : Int) := by rw [wr (by omega) (by omega)]; omega
    cases hr : dfs (empB l) l.length i [] 0 with
    | some w =>
      have r1 : ewB l i [] 0 = true := by rw [ewB, hr]; rfl
      have r2 : ewR l i [] 0 = w := by rw [ewR, hr]; rfl
      have eW := len_encN w
      have tw := take_encN w
      have hv2 : ewV l = some w := by
        rw [hds]
        have n1 := hno 1 (by omega)
        have n2 := hno 2 (by omega)
        rcases (by omega : i = 1 ∨ i = 2 ∨ i = 3) with rfl | rfl | rfl
        · rw [hr]
        · rw [n1 (by omega), hr]
        · rw [n1 (by omega), n2 (by omega)]; exact hr
      simp only [hv2, Option.getD_some]
      simp only [V_seq, V_skip, V_ret, V_block, V_region, V_cond, brW_true, W_nil, W_cons, effOp2, KN_seq, KXr_nil, KXr_seq, KXr_block, KXr_back, QE, asB, effOp, effPure, Option.isSome_some, skipE, pureV, partV, loadV, ofC, strip, lkT, lkH, ISt.app, opI, gO, gB, allB, gval, wrapG, dstOK, setD, mentTm, mentHp, IV.ment, IV.mentL, idsV, idsL, clean, callArgs, callFn, enumT, conv, conv0, convL, IBlk.shape, Op.operands, reduceIte, reduceCtorEq, cond_true, cond_false, Bool.or_false, Bool.or_true, Bool.and_true, Bool.and_false, Nat.reduceAdd, Nat.reduceSub, Nat.reduceMul, Nat.reduceLT, Nat.reduceLeDiff, Nat.reduceEqDiff, Nat.reduceBEq, Nat.add_zero, Nat.zero_add, not_false_eq_true, beq_self_eq_true, true_and, and_true, and_false, and_self, false_implies, implies_true, List.map_cons, List.map_nil, List.nil_append, List.cons_append, List.append_nil, List.all_nil, Option.map_some, Option.map_none, List.getD_cons_zero, List.getD_cons_succ, List.length_cons, List.length_nil, List.take_succ_cons, List.take_nil, List.drop_zero, ex_clo, true_or, or_self, Bool.true_eq_false, Bool.false_eq_true, tab25, tab101, hN, Int.toNat_natCast, isTs_enc, toTs_enc, FinH, resA, resL, resV, SLe, SLe0, convTm, convHp, convB, sm, effH, mkHC0, mkHC1, lendM, lentM, lentI, allHere, addIds, idsB, flatIds, reach, posn, renV, renL, renB, renH, numB, subHp, fwd, bk, bwd, nones, keyOK, noSl, noSlL, flatBs, List.contains, List.elem, Option.isSome_some, List.nodup_nil, List.nodup_cons, List.not_mem_nil, List.mem_cons, or_false, Option.getD_some, lh_impl_EmptyWitness_h_slices_Clip_int_int, lh_impl_EmptyWitness_h_impl_EmptyWitness_1, hs_slices_Clip_int_int, hs_impl_EmptyWitness_1, ewHv, ewFn, z0, i0, tn, isNs_enc, toNs_enc, isTs_enc, toTs_enc, r1, r2, eW, tw, List.length_nil, Nat.sub_zero, Int.toNat_natCast]
      refine ⟨⟨by omega, by omega, by omega, by omega, hl, hs⟩, Nat.le_refl _, fun z => if z = 0 then 2288 else z, ?_⟩
      simp [convL]
      intro id h1 _ h3; omega
    | none =>
      have r1 : ewB l i [] 0 = false := by rw [ewB, hr]; rfl
      have r2 : ewR l i [] 0 = [] := by rw [ewR, hr]; rfl
      simp only [V_seq, V_skip, V_block, V_region, V_cond, brW_false, W_nil, W_cons, effOp2, KN_seq, KN_block, KN_back, asB, effOp, effPure, Option.isSome_some, skipE, pureV, binV, partV, loadV, ofC, strip, lkT, lkH, ISt.app, opI, gO, gB, allB, gval, wrapG, dstOK, setD, mentTm, mentHp, IV.ment, IV.mentL, idsV, idsL, clean, callArgs, callFn, enumT, conv, conv0, convL, IBlk.shape, Op.operands, reduceIte, reduceCtorEq, cond_true, cond_false, Bool.or_false, Bool.or_true, Bool.and_true, Bool.and_false, Nat.reduceAdd, Nat.reduceSub, Nat.reduceMul, Nat.reduceLT, Nat.reduceLeDiff, Nat.reduceEqDiff, Nat.reduceBEq, Nat.add_zero, Nat.zero_add, not_false_eq_true, beq_self_eq_true, true_and, and_true, and_false, and_self, false_implies, implies_true, List.map_cons, List.map_nil, List.nil_append, List.cons_append, List.append_nil, List.all_nil, Option.map_some, Option.map_none, List.getD_cons_zero, List.getD_cons_succ, List.length_cons, List.length_nil, List.take_succ_cons, List.take_nil, List.drop_zero, ex_clo, or_self, Bool.true_eq_false, Bool.false_eq_true, tab101, hN, Int.toNat_natCast, isTs_enc, toTs_enc, SLe0, convTm, convHp, convB, sm, effH, mkHC0, mkHC1, lendM, lentM, lentI, allHere, addIds, idsB, flatIds, reach, posn, renV, renL, renB, renH, numB, subHp, fwd, bk, bwd, nones, keyOK, noSl, noSlL, flatBs, List.contains, List.elem, Option.isSome_some, List.nodup_nil, List.nodup_cons, List.not_mem_nil, List.mem_cons, or_false, Option.getD_some, lh_impl_EmptyWitness_h_impl_EmptyWitness_1, hs_impl_EmptyWitness_1, ewHv, ewFn, z0, i0, tn, isTs_enc, toTs_enc, r1, r2, hw, e0, List.length_nil, Nat.sub_zero, Int.toNat_natCast]
      refine ⟨⟨by omega, by omega, by omega, by omega, hl, hs⟩, i + 1, fun z => if z = 9 then 2288 else z, ⟨by omega, by omega, fun s h1 h2 => ?_⟩, by simp only []; omega, ?_⟩
      · rcases Nat.lt_or_ge s i with c | c
        · exact hno s h1 c
        · rw [show s = i by omega]; exact hr
      · simp [SLe, SLe0, convTm, convHp, convB, conv, conv0, convL, lkT, lkH, clean]
        intro id h1 _ h3; omega
  · have hi : i = 4 := by have := of_decide_eq_false h; omega
    exfalso
    have : ewV l = none := by
      rw [hds, hno 1 (by omega) (by omega), hno 2 (by omega) (by omega), hno 3 (by omega) (by omega)]
    rw [this] at hsome; cases hsome
def hs_impl_EmptyWitness_h : HSpec := ⟨[true], fun xs hp => match xs, hp with | [.sl 3 es], [] => (isTs es) ∧ ((fun (l : List Tr) => (ewV l).isSome = true) (toTs es)) | _, _ => False, fun xs hp => match xs, hp with | [.sl 3 es], [] => (fun (l : List Tr) => (.tup [.ref 0 0 ((ewV l).getD []).length false, .bool true] : IV)) (toTs es) | _, _ => .junk, fun xs hp => match xs, hp with | [.sl 3 es], [] => (fun (l : List Tr) => ([(0, .arr 1 3 (encN ((ewV l).getD [])))] : List (Nat × IBlk))) (toTs es) | _, _ => []⟩
theorem hk_impl_EmptyWitness_h : ∀ args hp, hs_impl_EmptyWitness_h.pre args hp → HCall Try.prog 30 args (sm hp) (hs_impl_EmptyWitness_h.val args hp) (sm (hs_impl_EmptyWitness_h.hval args hp)) := by
  intro args hp h
  unfold hs_impl_EmptyWitness_h at h ⊢; simp only at h ⊢; split at h
  · obtain ⟨h1, h2⟩ := h; obtain ⟨l, rfl⟩ := isT_ex h1; rw [toTs_enc] at *; exact c_impl_EmptyWitness_h l h2
  · exact h.elim
theorem en_impl_EmptyWitness_h : Enters Try.prog 30 := enters_of Try.func30 (by kernel_rfl) rfl

end Go.Proofs.Ytemppebemahkoaa
