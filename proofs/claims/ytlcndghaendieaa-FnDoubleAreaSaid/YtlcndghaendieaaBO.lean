/- Contracts: one of some numbers; drawn points that may be invalid. -/
import Derived.Test.YtlcndghaendieaaB6
set_option linter.unusedVariables false
set_option linter.unusedSimpArgs false
namespace Go.Proofs.Ytlcndghaendieaa
open Go Go.Ideal Go.Pl Go.Sort

def g_spec_reader_one : List (Nat × PSpec) := []
theorem gok_spec_reader_one : GOK Try.prog g_spec_reader_one := gok0
def h_spec_reader_one : List (Nat × HSpec) := [(79, hs_spec_reader_pick)]
theorem hok_spec_reader_one : HOK Try.prog h_spec_reader_one := hok_cons hk_spec_reader_pick en_spec_reader_pick (hok0)
theorem lh_spec_reader_one_spec_reader_pick : lkHS h_spec_reader_one 79 = some hs_spec_reader_pick := rfl
theorem c_spec_reader_one (b : List Int) (p : Nat) (L : List Int) (full : Bool) (hb : BytesOK b) (hp : p ≤ 900000) (h0 : 0 < L.length) (h1 : L.length ≤ 1000) : HCall Try.prog 122 [.ptr 1000 0, .ref 1001 0 L.length full] (sm ([(1000, rdr b p), (1001, .arr 1 3 (encI L))])) (.num .i64 (L.getD (pickI b p L.length).toNat 0)) (sm ([(1000, rdr b (p + 1)), (1001, .arr 1 3 (encI L))])) := by
  refine hcall_V (G := g_spec_reader_one) (H := h_spec_reader_one) [] tabOK mixed gok_spec_reader_one hok_spec_reader_one Try.func122 rfl Try.ntmps122 Try.results122 rfl (by kernel_rfl) fun F hN hlen => ?_
  simp only [sm]
  have eL : (encI L).length = L.length := len_encI L
  have pk := pick_nonneg hb (show p ≤ 1000000000 by omega) L.length
  have hlt := pk.2.1 (by omega)
  obtain ⟨k, hk⟩ : ∃ k : Nat, pickI b p L.length = k := ⟨(pickI b p L.length).toNat, by omega⟩
  have g := getD_encI (l := L) (i := k) (by omega)
  have hpl : p ≤ 1000000 := by omega
  have hnn : ((L.length : Nat) : Int) ≤ 1000000 := by omega
  simp only [V_seq, V_ret, V_region, W_nil, W_cons, effOp2, KN_seq, KXr_nil, QE, effOp, effPure, Option.isSome_some, skipE, pureV, eltV, loadV, iaddrV, lenV, ofC, strip, lkT, lkH, ISt.app, opI, gO, gB, allB, gval, wrapG, dstOK, setD, mentTm, mentHp, IV.ment, IV.mentL, idsV, idsL, clean, callArgs, callFn, enumT, conv, conv0, convL, IBlk.shape, Op.operands, Call.operands, List.append_toArray, reduceIte, reduceCtorEq, cond_true, cond_false, Bool.or_false, Bool.or_true, Bool.and_true, Nat.reduceAdd, Nat.reduceSub, Nat.reduceMul, Nat.reduceLT, Nat.reduceLeDiff, Nat.reduceEqDiff, Nat.reduceBEq, Nat.zero_add, ne_eq, not_false_eq_true, beq_self_eq_true, true_and, and_true, and_false, and_self, false_implies, implies_true, forall_const, List.map_cons, List.map_nil, List.nil_append, List.cons_append, List.append_nil, List.all_nil, Option.map_some, List.getD_cons_zero, ex_clo, Bool.true_eq_false, Bool.false_eq_true, tab3, tab72, hN, Int.toNat_natCast, isBy_enc, toBy_enc, FinH, resA, resV, SLe, SLe0, convTm, convHp, convB, sm, effH, mkHC0, mkHC1, lendM, lentM, lentI, allHere, addIds, idsB, flatIds, reach, posn, renV, renL, renB, renH, numB, subHp, fwd, bk, bwd, nones, keyOK, noSl, noSlL, flatBs, List.contains, List.elem, Option.isSome_some, List.nodup_nil, List.nodup_cons, List.not_mem_nil, List.mem_cons, or_false, Option.getD_some, lh_spec_reader_one_spec_reader_pick, hs_spec_reader_pick, rdr, hb, hpl, hnn, eL, hk, g]
  repeat refine And.intro (by first | omega | (simp; done) | (simp; omega)) ?_
  exact ⟨id, by simp [convL, conv, conv0, clean]⟩
def hs_spec_reader_one : HSpec := ⟨[false, false], fun xs hp => match xs, hp with | [.ptr 1000 0, .ref 1001 0 n full], [(1000, .box ty [.sl 1 es, .num .i64 pz]), (1001, .arr 1 ty2 ls)] => (isBy es) ∧ (isIs ls) ∧ (ty = 86) ∧ (pz = (pz.toNat : Int)) ∧ (n = ls.length) ∧ (ty2 = 3) ∧ ((fun (b : List Int) (p : Nat) (L : List Int) (full : Bool) => BytesOK b) (toIs es) pz.toNat (toIs ls) full) ∧ ((fun (b : List Int) (p : Nat) (L : List Int) (full : Bool) => p ≤ 900000) (toIs es) pz.toNat (toIs ls) full) ∧ ((fun (b : List Int) (p : Nat) (L : List Int) (full : Bool) => 0 < L.length) (toIs es) pz.toNat (toIs ls) full) ∧ ((fun (b : List Int) (p : Nat) (L : List Int) (full : Bool) => L.length ≤ 1000) (toIs es) pz.toNat (toIs ls) full) | _, _ => False, fun xs hp => match xs, hp with | [.ptr 1000 0, .ref 1001 0 n full], [(1000, .box ty [.sl 1 es, .num .i64 pz]), (1001, .arr 1 ty2 ls)] => (fun (b : List Int) (p : Nat) (L : List Int) (full : Bool) => (.num .i64 (L.getD (pickI b p L.length).toNat 0) : IV)) (toIs es) pz.toNat (toIs ls) full | _, _ => .junk, fun xs hp => match xs, hp with | [.ptr 1000 0, .ref 1001 0 n full], [(1000, .box ty [.sl 1 es, .num .i64 pz]), (1001, .arr 1 ty2 ls)] => (fun (b : List Int) (p : Nat) (L : List Int) (full : Bool) => ([(1000, rdr b (p + 1)), (1001, .arr 1 3 (encI L))] : List (Nat × IBlk))) (toIs es) pz.toNat (toIs ls) full | _, _ => []⟩
theorem hk_spec_reader_one : ∀ args hp, hs_spec_reader_one.pre args hp → HCall Try.prog 122 args (sm hp) (hs_spec_reader_one.val args hp) (sm (hs_spec_reader_one.hval args hp)) := by
  intro args hp h
  unfold hs_spec_reader_one at h ⊢; simp only at h ⊢; split at h
  · obtain ⟨h1, h2, rfl, h3, rfl, rfl, h4, h5, h6, h7⟩ := h; obtain ⟨l, rfl⟩ := isBy_ex h1; obtain ⟨m, rfl⟩ := isI_ex h2; rw [toBy_enc] at *; rw [toIs_enc] at *; rw [h3, len_encI]; exact c_spec_reader_one l _ m _ h4 (by simpa using h5) h6 h7
  · exact h.elim
theorem en_spec_reader_one : Enters Try.prog 122 := enters_of Try.func122 (by kernel_rfl) rfl


def badI (b : List Int) (p : Nat) : Int := [1001, -1001, 1000, -1000].getD (pickI b p 4).toNat 0
def aPoint (b : List Int) (p : Nat) : Pt × Nat :=
  if pickI b (p + 2) 16 = 0 then ((badI b (p + 3), (rPoint b p).2), p + 4)
  else if pickI b (p + 2) 16 = 1 then (((rPoint b p).1, badI b (p + 3)), p + 4)
  else (rPoint b p, p + 3)

def g_spec_anyPoint : List (Nat × PSpec) := []
theorem gok_spec_anyPoint : GOK Try.prog g_spec_anyPoint := gok0
def h_spec_anyPoint : List (Nat × HSpec) := [(121, hs_spec_randomPoint), (79, hs_spec_reader_pick), (122, hs_spec_reader_one)]
theorem hok_spec_anyPoint : HOK Try.prog h_spec_anyPoint := hok_cons hk_spec_randomPoint en_spec_randomPoint (hok_cons hk_spec_reader_pick en_spec_reader_pick (hok_cons hk_spec_reader_one en_spec_reader_one (hok0)))
theorem lh_spec_anyPoint_spec_randomPoint : lkHS h_spec_anyPoint 121 = some hs_spec_randomPoint := rfl
theorem lh_spec_anyPoint_spec_reader_pick : lkHS h_spec_anyPoint 79 = some hs_spec_reader_pick := rfl
theorem lh_spec_anyPoint_spec_reader_one : lkHS h_spec_anyPoint 122 = some hs_spec_reader_one := rfl
theorem c_spec_anyPoint (b : List Int) (p : Nat) (hb : BytesOK b) (hp : p ≤ 800000) : HCall Try.prog 81 [.ptr 1000 0] (sm ([(1000, rdr b p)])) (encP (aPoint b p).1) (sm ([(1000, rdr b (aPoint b p).2)])) := by
  refine hcall_V (G := g_spec_anyPoint) (H := h_spec_anyPoint) [] tabOK mixed gok_spec_anyPoint hok_spec_anyPoint Try.func81 rfl Try.ntmps81 Try.results81 rfl (by kernel_rfl) fun F hN hlen => ?_
  simp only [sm]
  have hp1 : p ≤ 900000 := by omega
  have hp2 : p + 2 ≤ 1000000 := by omega
  have hp3 : p + 2 + 1 ≤ 900000 := by omega
  by_cases c0 : pickI b (p + 2) 16 = 0
  · have d1 : (pickI b (p + 2) 16 == 0) = true := by simpa using c0
    have hA : aPoint b p = ((badI b (p + 3), (rPoint b p).2), p + 4) := by rw [aPoint, if_pos c0]
    have hbd : [1001, -1001, 1000, -1000].getD (pickI b (p + 2 + 1) 4).toNat 0 = badI b (p + 3) := rfl
    simp only [V_seq, V_ret, V_block, V_region, V_cond, brW_true, W_nil, W_cons, effOp2, KN_seq, KN_block, KXr_nil, QE, asB, effOp, effPure, effNew, effAlloc, effBuildSlice, effFrz, frz, tmpsOf, effStore, Option.isSome_some, skipE, pureV, storeV, binV, partV, loadV, faddrV, over, solid, IV.cells, ofC, strip, lkT, lkH, ISt.app, opI, gO, gB, allB, gval, wrapG, dstOK, setD, mentTm, mentHp, IV.ment, IV.mentL, partsL, eltsI, eltI, oneI, noId', idsV, idsL, clean, callArgs, callFn, enumT, conv, conv0, convL, IBlk.shape, Op.operands, reduceIte, reduceCtorEq, cond_true, cond_false, Bool.or_false, Bool.or_true, Bool.and_true, Bool.false_and, Nat.reduceAdd, Nat.reduceSub, Nat.reduceMul, Nat.reduceLT, Nat.reduceLeDiff, Nat.reduceEqDiff, Nat.reduceBEq, Nat.add_zero, Nat.zero_add, ne_eq, not_false_eq_true, beq_self_eq_true, true_and, and_true, and_false, and_self, false_implies, implies_true, List.map_cons, List.map_nil, List.nil_append, List.cons_append, List.append_nil, List.all_cons, List.all_nil, Option.map_some, List.getD_cons_zero, List.getD_cons_succ, List.length_cons, List.length_nil, List.take_succ_cons, List.take_zero, List.take_nil, List.drop_succ_cons, List.drop_zero, List.drop_nil, ex_clo, or_self, Bool.true_eq_false, Bool.false_eq_true, tab3, tab28, tab72, hN, Int.toNat_natCast, encP, isBy_enc, toBy_enc, isIs_nil, toIs_nil, isIs_cons, toIs_cons, FinH, resA, resV, SLe, SLe0, convTm, convHp, convB, sm, effH, mkHC0, mkHC1, lendM, lentM, lentI, allHere, addIds, idsB, flatIds, reach, posn, renV, renL, renB, renH, numB, subHp, fwd, bk, bwd, nones, keyOK, noSl, noSlL, flatBs, List.contains, List.elem, Option.isSome_some, List.nodup_nil, List.nodup_cons, List.not_mem_nil, List.mem_cons, or_false, Option.getD_some, lh_spec_anyPoint_spec_randomPoint, lh_spec_anyPoint_spec_reader_pick, lh_spec_anyPoint_spec_reader_one, hs_spec_randomPoint, hs_spec_reader_pick, hs_spec_reader_one, rdr, hb, hp1, hp2, hp3, d1, hA]
    exact ⟨by omega, List.take_length.symm, id, by simp [convL, conv, conv0, clean, badI]; omega⟩
  · have d1 : (pickI b (p + 2) 16 == 0) = false := by simpa using c0
    by_cases c1 : pickI b (p + 2) 16 = 1
    · have d2 : (pickI b (p + 2) 16 == 1) = true := by simpa using c1
      have hA : aPoint b p = (((rPoint b p).1, badI b (p + 3)), p + 4) := by rw [aPoint, if_neg c0, if_pos c1]
      have hbd : [1001, -1001, 1000, -1000].getD (pickI b (p + 2 + 1) 4).toNat 0 = badI b (p + 3) := rfl
      simp only [V_seq, V_ret, V_block, V_region, V_cond, brW_true, brW_false, W_nil, W_cons, effOp2, KN_seq, KN_block, KXr_nil, QE, asB, effOp, effPure, effNew, effAlloc, effBuildSlice, effFrz, frz, tmpsOf, effStore, Option.isSome_some, skipE, pureV, storeV, binV, partV, loadV, faddrV, over, solid, IV.cells, ofC, strip, lkT, lkH, ISt.app, opI, gO, gB, allB, gval, wrapG, dstOK, setD, mentTm, mentHp, IV.ment, IV.mentL, partsL, eltsI, eltI, oneI, noId', idsV, idsL, clean, callArgs, callFn, enumT, conv, conv0, convL, IBlk.shape, Op.operands, reduceIte, reduceCtorEq, cond_true, cond_false, Bool.or_false, Bool.or_true, Bool.and_true, Bool.false_and, Nat.reduceAdd, Nat.reduceSub, Nat.reduceMul, Nat.reduceLT, Nat.reduceLeDiff, Nat.reduceEqDiff, Nat.reduceBEq, Nat.zero_add, ne_eq, not_false_eq_true, beq_self_eq_true, true_and, and_true, and_false, and_self, false_implies, implies_true, List.map_cons, List.map_nil, List.nil_append, List.cons_append, List.append_nil, List.all_cons, List.all_nil, Option.map_some, List.getD_cons_zero, List.getD_cons_succ, List.length_cons, List.length_nil, List.take_succ_cons, List.take_zero, List.take_nil, List.drop_succ_cons, List.drop_zero, List.drop_nil, ex_clo, or_self, Bool.true_eq_false, Bool.false_eq_true, tab3, tab28, tab72, hN, Int.toNat_natCast, encP, isBy_enc, toBy_enc, isIs_nil, toIs_nil, isIs_cons, toIs_cons, FinH, resA, resV, SLe, SLe0, convTm, convHp, convB, sm, effH, mkHC0, mkHC1, lendM, lentM, lentI, allHere, addIds, idsB, flatIds, reach, posn, renV, renL, renB, renH, numB, subHp, fwd, bk, bwd, nones, keyOK, noSl, noSlL, flatBs, List.contains, List.elem, Option.isSome_some, List.nodup_nil, List.nodup_cons, List.not_mem_nil, List.mem_cons, or_false, Option.getD_some, lh_spec_anyPoint_spec_randomPoint, lh_spec_anyPoint_spec_reader_pick, lh_spec_anyPoint_spec_reader_one, hs_spec_randomPoint, hs_spec_reader_pick, hs_spec_reader_one, rdr, hb, hp1, hp2, hp3, d1, d2, hA]
      exact ⟨by omega, List.take_length.symm, id, by simp [convL, conv, conv0, clean, badI]; omega⟩
    · have d2 : (pickI b (p + 2) 16 == 1) = false := by simpa using c1
      have hA : aPoint b p = (rPoint b p, p + 3) := by rw [aPoint, if_neg c0, if_neg c1]
      simp only [V_seq, V_skip, V_ret, V_block, V_region, V_cond, brW_false, W_nil, W_cons, effOp2, KN_seq, KN_block, KXr_nil, QE, asB, effOp, effPure, effNew, effAlloc, effStore, Option.isSome_some, skipE, pureV, storeV, binV, partV, loadV, over, solid, IV.cells, ofC, strip, lkT, lkH, ISt.app, opI, gO, gB, allB, gval, wrapG, dstOK, setD, mentTm, mentHp, IV.ment, IV.mentL, oneI, idsV, idsL, clean, callArgs, callFn, enumT, conv, conv0, convL, IBlk.shape, Op.operands, reduceIte, reduceCtorEq, cond_true, cond_false, Bool.or_false, Bool.or_true, Bool.and_true, Nat.reduceAdd, Nat.reduceSub, Nat.reduceMul, Nat.reduceLT, Nat.reduceLeDiff, Nat.reduceEqDiff, Nat.reduceBEq, Nat.zero_add, not_false_eq_true, beq_self_eq_true, true_and, and_true, and_false, and_self, false_implies, implies_true, List.map_cons, List.map_nil, List.nil_append, List.cons_append, List.append_nil, List.all_cons, List.all_nil, Option.map_some, List.getD_cons_zero, List.length_cons, List.length_nil, List.take_succ_cons, List.take_zero, List.take_nil, List.drop_succ_cons, List.drop_zero, List.drop_nil, ex_clo, Bool.true_eq_false, Bool.false_eq_true, tab28, hN, Int.toNat_natCast, encP, isBy_enc, toBy_enc, FinH, resA, resV, SLe, SLe0, convTm, convHp, convB, sm, effH, mkHC0, mkHC1, lendM, lentM, lentI, allHere, addIds, idsB, flatIds, reach, posn, renV, renL, renB, renH, numB, subHp, fwd, bk, bwd, nones, keyOK, noSl, noSlL, flatBs, List.contains, List.elem, Option.isSome_some, List.nodup_nil, List.nodup_cons, List.not_mem_nil, or_false, Option.getD_some, lh_spec_anyPoint_spec_randomPoint, lh_spec_anyPoint_spec_reader_pick, hs_spec_randomPoint, hs_spec_reader_pick, rdr, hb, hp1, hp2, d1, d2, hA]
      exact ⟨by omega, id, by simp [convL, conv, conv0, clean]; omega⟩
def hs_spec_anyPoint : HSpec := ⟨[false], fun xs hp => match xs, hp with | [.ptr 1000 0], [(1000, .box ty [.sl 1 es, .num .i64 pz])] => (isBy es) ∧ (ty = 86) ∧ (pz = (pz.toNat : Int)) ∧ ((fun (b : List Int) (p : Nat) => BytesOK b) (toIs es) pz.toNat) ∧ ((fun (b : List Int) (p : Nat) => p ≤ 800000) (toIs es) pz.toNat) | _, _ => False, fun xs hp => match xs, hp with | [.ptr 1000 0], [(1000, .box ty [.sl 1 es, .num .i64 pz])] => (fun (b : List Int) (p : Nat) => (encP (aPoint b p).1 : IV)) (toIs es) pz.toNat | _, _ => .junk, fun xs hp => match xs, hp with | [.ptr 1000 0], [(1000, .box ty [.sl 1 es, .num .i64 pz])] => (fun (b : List Int) (p : Nat) => ([(1000, rdr b (aPoint b p).2)] : List (Nat × IBlk))) (toIs es) pz.toNat | _, _ => []⟩
theorem hk_spec_anyPoint : ∀ args hp, hs_spec_anyPoint.pre args hp → HCall Try.prog 81 args (sm hp) (hs_spec_anyPoint.val args hp) (sm (hs_spec_anyPoint.hval args hp)) := by
  intro args hp h
  unfold hs_spec_anyPoint at h ⊢; simp only at h ⊢; split at h
  · obtain ⟨h1, rfl, h3, h4, h5⟩ := h; obtain ⟨l, rfl⟩ := isBy_ex h1; rw [toBy_enc] at *; rw [h3]; exact c_spec_anyPoint l _ h4 (by simpa using h5)
  · exact h.elim
theorem en_spec_anyPoint : Enters Try.prog 81 := enters_of Try.func81 (by kernel_rfl) rfl

end Go.Proofs.Ytlcndghaendieaa
