/- Contracts: drawn half-planes; the law on the highest corner: the walk. -/
import Derived.Test.YtlgjhojihgmfhaaB32
import Derived.Test.YtlgjhojihgmfhaaBO
set_option linter.unusedVariables false
set_option linter.unusedSimpArgs false
set_option maxHeartbeats 1600000
set_option maxRecDepth 100000
namespace Go.Proofs.Ytlgjhojihgmfhaa
open Go Go.Ideal Go.Pl Go.Sort

def offsL : List Int := [0, 1, 5, -5, 20, -20, 2000, -1990]
def rHalf (b : List Int) (p : Nat) : Tr :=
  (if pickI b p 7 - 3 = 0 ∧ pickI b (p + 1) 7 - 3 = 0 then 1 else pickI b p 7 - 3, pickI b (p + 1) 7 - 3, offsL.getD (pickI b (p + 2) 8).toNat 0)
def g_spec_randomHalf : List (Nat × PSpec) := []
theorem gok_spec_randomHalf : GOK Try.prog g_spec_randomHalf := gok0
def h_spec_randomHalf : List (Nat × HSpec) := [(181, hs_spec_reader_pick), (183, hs_spec_reader_one)]
theorem hok_spec_randomHalf : HOK Try.prog h_spec_randomHalf := hok_cons hk_spec_reader_pick en_spec_reader_pick (hok_cons hk_spec_reader_one en_spec_reader_one (hok0))
theorem lh_spec_randomHalf_spec_reader_pick : lkHS h_spec_randomHalf 181 = some hs_spec_reader_pick := rfl
theorem lh_spec_randomHalf_spec_reader_one : lkHS h_spec_randomHalf 183 = some hs_spec_reader_one := rfl
theorem c_spec_randomHalf (b : List Int) (p : Nat) (hb : BytesOK b) (hp : p ≤ 800000) : HCall Try.prog 182 [.ptr 1000 0] (sm ([(1000, rdr b p)])) (encT (rHalf b p)) (sm ([(1000, rdr b (p + 3))])) := by
  refine hcall_V (G := g_spec_randomHalf) (H := h_spec_randomHalf) [] tabOK mixed gok_spec_randomHalf hok_spec_randomHalf Try.func182 rfl Try.ntmps182 Try.results182 rfl (by kernel_rfl) fun F hN hlen => ?_
  simp only [sm]
  have h1 := pick_nonneg hb (show p ≤ 1000000000 by omega) 7
  have h2 := pick_nonneg hb (show p + 1 ≤ 1000000000 by omega) 7
  have h3 := h1.2.1 (by omega)
  have h4 := h2.2.1 (by omega)
  have w1 : IntKind.i64.wrap (pickI b p 7 - 3) = pickI b p 7 - 3 := wr (by omega) (by omega)
  have w2 : IntKind.i64.wrap (pickI b (p + 1) 7 - 3) = pickI b (p + 1) 7 - 3 := wr (by omega) (by omega)
  have p1 : p ≤ 1000000 := by omega
  have p2 : p + 1 ≤ 1000000 := by omega
  have p3 : p + 1 + 1 ≤ 900000 := by omega
  have e8 : encI offsL = [.num .i64 0, .num .i64 1, .num .i64 5, .num .i64 (-5), .num .i64 20, .num .i64 (-20), .num .i64 2000, .num .i64 (-1990)] := rfl
  have hv : rHalf b p = (if pickI b p 7 - 3 = 0 ∧ pickI b (p + 1) 7 - 3 = 0 then 1 else pickI b p 7 - 3, pickI b (p + 1) 7 - 3, offsL.getD (pickI b (p + 2) 8).toNat 0) := rfl
  have ho : offsL = [0, 1, 5, -5, 20, -20, 2000, -1990] := rfl
  rw [ho] at hv
  cases c1 : (pickI b p 7 - 3 == 0) with
  | false =>
    rw [if_neg (by intro h; rw [h.1] at c1; cases c1)] at hv
    simp only [V_seq, V_skip, V_ret, V_region, V_cond, brW_false, W_nil, W_cons, effOp2, KN_seq, KXr_nil, QE, asB, effOp, effPure, effPick, effNew, effAlloc, effBuildSlice, effFrz, frz, tmpsOf, effStore, Option.isSome_some, skipE, pureV, pickV, storeV, binV, partV, loadV, faddrV, over, solid, buildL, IV.cells, ofC, strip, lkT, lkH, ISt.app, opI, gO, gB, allB, gval, wrapG, dstOK, setD, mentTm, mentHp, IV.ment, IV.mentL, partsL, eltsI, eltI, oneI, noId', idsV, idsL, clean, callArgs, callFn, enumT, conv, conv0, convL, IBlk.shape, Op.operands, reduceIte, reduceCtorEq, cond_true, cond_false, Bool.or_false, Bool.or_true, Bool.and_true, Bool.false_and, Nat.reduceAdd, Nat.reduceSub, Nat.reduceMul, Nat.reduceLT, Nat.reduceLeDiff, Nat.reduceEqDiff, Nat.reduceBEq, Nat.add_zero, Nat.zero_add, ne_eq, not_false_eq_true, beq_self_eq_true, true_and, and_true, and_false, and_self, false_implies, implies_true, List.map_cons, List.map_nil, List.nil_append, List.cons_append, List.append_nil, List.all_cons, List.all_nil, Option.map_some, Option.bind_some, List.getElem?_cons_zero, List.getElem?_cons_succ, List.getD_cons_zero, List.getD_cons_succ, List.length_cons, List.length_nil, List.take_succ_cons, List.take_zero, List.take_nil, List.drop_succ_cons, List.drop_zero, List.drop_nil, ex_clo, bft, or_self, Bool.true_eq_false, Bool.false_eq_true, tab3, tab62, tab106, hN, Int.toNat_natCast, encT, isBy_enc, toBy_enc, isIs_nil, toIs_nil, isIs_cons, toIs_cons, FinH, resA, resV, SLe, SLe0, convTm, convHp, convB, sm, effH, mkHC0, mkHC1, lendM, lentM, lentI, allHere, addIds, idsB, flatIds, reach, posn, renV, renL, renB, renH, numB, subHp, fwd, bk, bwd, nones, keyOK, noSl, noSlL, flatBs, List.contains, List.elem, Option.isSome_some, List.nodup_nil, List.nodup_cons, List.not_mem_nil, List.mem_cons, or_false, Option.getD_some, lh_spec_randomHalf_spec_reader_pick, lh_spec_randomHalf_spec_reader_one, hs_spec_reader_pick, hs_spec_reader_one, rdr, hb, w1, w2, p1, p2, p3, c1, hv]
    exact ⟨by omega, by omega, List.take_length.symm, id, by simp [convL, conv, conv0, clean]; omega⟩
  | true =>
    cases c2 : (pickI b (p + 1) 7 - 3 == 0) with
    | false =>
      rw [if_neg (by intro h; rw [h.2] at c2; cases c2)] at hv
      simp only [V_seq, V_skip, V_ret, V_region, V_cond, brW_false, W_nil, W_cons, effOp2, KN_seq, KXr_nil, QE, asB, effOp, effPure, effPick, effNew, effAlloc, effBuildSlice, effFrz, frz, tmpsOf, effStore, Option.isSome_some, skipE, pureV, pickV, storeV, binV, partV, loadV, faddrV, over, solid, buildL, IV.cells, ofC, strip, lkT, lkH, ISt.app, opI, gO, gB, allB, gval, wrapG, dstOK, setD, mentTm, mentHp, IV.ment, IV.mentL, partsL, eltsI, eltI, oneI, noId', idsV, idsL, clean, callArgs, callFn, enumT, conv, conv0, convL, IBlk.shape, Op.operands, reduceIte, reduceCtorEq, cond_true, cond_false, Bool.or_false, Bool.or_true, Bool.and_true, Bool.false_and, Nat.reduceAdd, Nat.reduceSub, Nat.reduceMul, Nat.reduceLT, Nat.reduceLeDiff, Nat.reduceEqDiff, Nat.reduceBEq, Nat.add_zero, Nat.zero_add, ne_eq, not_false_eq_true, beq_self_eq_true, true_and, and_true, and_false, and_self, false_implies, implies_true, List.map_cons, List.map_nil, List.nil_append, List.cons_append, List.append_nil, List.all_cons, List.all_nil, Option.map_some, Option.bind_some, List.getElem?_cons_zero, List.getElem?_cons_succ, List.getD_cons_zero, List.getD_cons_succ, List.length_cons, List.length_nil, List.take_succ_cons, List.take_zero, List.take_nil, List.drop_succ_cons, List.drop_zero, List.drop_nil, ex_clo, or_self, Bool.true_eq_false, Bool.false_eq_true, tab3, tab62, tab106, hN, Int.toNat_natCast, encT, isBy_enc, toBy_enc, isIs_nil, toIs_nil, isIs_cons, toIs_cons, FinH, resA, resV, SLe, SLe0, convTm, convHp, convB, sm, effH, mkHC0, mkHC1, lendM, lentM, lentI, allHere, addIds, idsB, flatIds, reach, posn, renV, renL, renB, renH, numB, subHp, fwd, bk, bwd, nones, keyOK, noSl, noSlL, flatBs, List.contains, List.elem, Option.isSome_some, List.nodup_nil, List.nodup_cons, List.not_mem_nil, List.mem_cons, or_false, Option.getD_some, lh_spec_randomHalf_spec_reader_pick, lh_spec_randomHalf_spec_reader_one, hs_spec_reader_pick, hs_spec_reader_one, rdr, hb, w1, w2, p1, p2, p3, c1, c2, hv]
      exact ⟨by omega, by omega, List.take_length.symm, id, by simp [convL, conv, conv0, clean]; omega⟩
    | true =>
      rw [if_pos ⟨by simpa using c1, by simpa using c2⟩] at hv
      simp only [V_seq, V_ret, V_region, V_cond, brW_true, W_nil, W_cons, effOp2, KN_seq, KXr_nil, QE, asB, effOp, effPure, effPick, effNew, effAlloc, effBuildSlice, effFrz, frz, tmpsOf, effStore, Option.isSome_some, skipE, pureV, pickV, storeV, binV, partV, loadV, faddrV, over, solid, buildL, IV.cells, ofC, strip, lkT, lkH, ISt.app, opI, gO, gB, allB, gval, wrapG, dstOK, setD, mentTm, mentHp, IV.ment, IV.mentL, partsL, eltsI, eltI, oneI, noId', idsV, idsL, clean, callArgs, callFn, enumT, conv, conv0, convL, IBlk.shape, Op.operands, reduceIte, reduceCtorEq, cond_true, cond_false, Bool.or_false, Bool.or_true, Bool.and_true, Bool.false_and, Nat.reduceAdd, Nat.reduceSub, Nat.reduceMul, Nat.reduceLT, Nat.reduceLeDiff, Nat.reduceEqDiff, Nat.reduceBEq, Nat.add_zero, Nat.zero_add, ne_eq, not_false_eq_true, beq_self_eq_true, true_and, and_true, and_false, and_self, false_implies, implies_true, List.map_cons, List.map_nil, List.nil_append, List.cons_append, List.append_nil, List.all_cons, List.all_nil, Option.map_some, Option.bind_some, List.getElem?_cons_zero, List.getElem?_cons_succ, List.getD_cons_zero, List.getD_cons_succ, List.length_cons, List.length_nil, List.take_succ_cons, List.take_zero, List.take_nil, List.drop_succ_cons, List.drop_zero, List.drop_nil, ex_clo, or_self, Bool.true_eq_false, Bool.false_eq_true, tab3, tab62, tab106, hN, Int.toNat_natCast, encT, isBy_enc, toBy_enc, isIs_nil, toIs_nil, isIs_cons, toIs_cons, FinH, resA, resV, SLe, SLe0, convTm, convHp, convB, sm, effH, mkHC0, mkHC1, lendM, lentM, lentI, allHere, addIds, idsB, flatIds, reach, posn, renV, renL, renB, renH, numB, subHp, fwd, bk, bwd, nones, keyOK, noSl, noSlL, flatBs, List.contains, List.elem, Option.isSome_some, List.nodup_nil, List.nodup_cons, List.not_mem_nil, List.mem_cons, or_false, Option.getD_some, lh_spec_randomHalf_spec_reader_pick, lh_spec_randomHalf_spec_reader_one, hs_spec_reader_pick, hs_spec_reader_one, rdr, hb, w1, w2, p1, p2, p3, c1, c2, hv]
      exact ⟨by omega, by omega, List.take_length.symm, id, by simp [convL, conv, conv0, clean]; omega⟩
def hs_spec_randomHalf : HSpec := ⟨[false], fun xs hp => match xs, hp with | [.ptr 1000 0], [(1000, .box ty [.sl 1 es, .num .i64 pz])] => (isBy es) ∧ (ty = 168) ∧ (pz = (pz.toNat : Int)) ∧ ((fun (b : List Int) (p : Nat) => BytesOK b) (toIs es) pz.toNat) ∧ ((fun (b : List Int) (p : Nat) => p ≤ 800000) (toIs es) pz.toNat) | _, _ => False, fun xs hp => match xs, hp with | [.ptr 1000 0], [(1000, .box ty [.sl 1 es, .num .i64 pz])] => (fun (b : List Int) (p : Nat) => (encT (rHalf b p) : IV)) (toIs es) pz.toNat | _, _ => .junk, fun xs hp => match xs, hp with | [.ptr 1000 0], [(1000, .box ty [.sl 1 es, .num .i64 pz])] => (fun (b : List Int) (p : Nat) => ([(1000, rdr b (p + 3))] : List (Nat × IBlk))) (toIs es) pz.toNat | _, _ => []⟩
theorem hk_spec_randomHalf : ∀ args hp, hs_spec_randomHalf.pre args hp → HCall Try.prog 182 args (sm hp) (hs_spec_randomHalf.val args hp) (sm (hs_spec_randomHalf.hval args hp)) := by
  intro args hp h
  unfold hs_spec_randomHalf at h ⊢; simp only at h ⊢; split at h
  · obtain ⟨h1, rfl, h3, h4, h5⟩ := h; obtain ⟨l, rfl⟩ := isBy_ex h1; rw [toBy_enc] at *; rw [h3]; exact c_spec_randomHalf l _ h4 (by simpa using h5)
  · exact h.elim
theorem en_spec_randomHalf : Enters Try.prog 182 := enters_of Try.func182 (by kernel_rfl) rfl

def hLoop (b : List Int) : Nat → Nat → List Tr
  | 0, _ => []
  | n + 1, p => rHalf b p :: hLoop b n (p + 3)
theorem hLoop_len (b : List Int) : ∀ n p, (hLoop b n p).length = n
  | 0, _ => rfl
  | n + 1, p => by simp [hLoop, hLoop_len b n]
theorem hLoop_succ (b : List Int) : ∀ n p, hLoop b (n + 1) p = hLoop b n p ++ [rHalf b (p + 3 * n)]
  | 0, p => by simp [hLoop]
  | n + 1, p => by
    rw [hLoop, hLoop_succ b n (p + 3), hLoop]
    simp [show p + 3 + 3 * n = p + 3 * (n + 1) by omega]
def hNum (b : List Int) (p : Nat) : Nat := (pickI b p 6).toNat
/-- Drawn half-planes; where the reader stands then. -/
def aHalves (b : List Int) (p : Nat) : List Tr × Nat :=
  let L := hLoop b (hNum b p) (p + 1)
  let p1 := p + 1 + 3 * hNum b p
  if L.length = 0 then (L, p1)
  else if pickI b p1 18 = 0 then (L.set 0 (0, 0, 1), p1 + 1)
  else if pickI b p1 18 = 1 then (L.set 0 ((tAt L 0).1, (tAt L 0).2.1, [4000001, -4000001].getD (pickI b (p1 + 1) 2).toNat 0), p1 + 2)
  else if pickI b p1 18 = 2 then (L ++ hLoop b (9 - L.length) (p1 + 1), p1 + 1 + 3 * (9 - L.length))
  else (L, p1 + 1)
def g_spec_anyHalves : List (Nat × PSpec) := []
theorem gok_spec_anyHalves : GOK Try.prog g_spec_anyHalves := gok0
def h_spec_anyHalves : List (Nat × HSpec) := [(181, hs_spec_reader_pick), (182, hs_spec_randomHalf), (183, hs_spec_reader_one)]
theorem hok_spec_anyHalves : HOK Try.prog h_spec_anyHalves := hok_cons hk_spec_reader_pick en_spec_reader_pick (hok_cons hk_spec_randomHalf en_spec_randomHalf (hok_cons hk_spec_reader_one en_spec_reader_one (hok0)))
theorem lh_spec_anyHalves_spec_reader_pick : lkHS h_spec_anyHalves 181 = some hs_spec_reader_pick := rfl
theorem lh_spec_anyHalves_spec_randomHalf : lkHS h_spec_anyHalves 182 = some hs_spec_randomHalf := rfl
theorem lh_spec_anyHalves_spec_reader_one : lkHS h_spec_anyHalves 183 = some hs_spec_reader_one := rfl
theorem c_spec_anyHalves (b : List Int) (p : Nat) (hb : BytesOK b) (hp : p ≤ 700000) : HCall Try.prog 109 [.ptr 1000 0] (sm ([(1000, rdr b p)])) (.ref 0 0 (aHalves b p).1.length true) (sm ([(0, .arr 3 106 (encTs (aHalves b p).1)), (1000, rdr b (aHalves b p).2)])) := by
  refine hcall_V (G := g_spec_anyHalves) (H := h_spec_anyHalves) [] tabOK mixed gok_spec_anyHalves hok_spec_anyHalves Try.func109 rfl Try.ntmps109 Try.results109 rfl (by kernel_rfl) fun F hN hlen => ?_
  simp only [sm]
  have h1 := pick_nonneg hb (show p ≤ 1000000000 by omega) 6
  have h2 := h1.2.1 (by omega)
  have n2 : pickI b p 6 = (hNum b p : Int) := by unfold hNum; omega
  have hL := hLoop_len b (hNum b p) (p + 1)
  obtain ⟨n, hn⟩ : ∃ n, hNum b p = n := ⟨_, rfl⟩
  have hn6 : n < 6 := by omega
  have hA : ∀ L p1, hLoop b n (p + 1) = L → p + 1 + 3 * n = p1 → aHalves b p = if L.length = 0 then (L, p1)
      else if pickI b p1 18 = 0 then (L.set 0 (0, 0, 1), p1 + 1)
      else if pickI b p1 18 = 1 then (L.set 0 ((tAt L 0).1, (tAt L 0).2.1, [4000001, -4000001].getD (pickI b (p1 + 1) 2).toNat 0), p1 + 2)
      else if pickI b p1 18 = 2 then (L ++ hLoop b (9 - L.length) (p1 + 1), p1 + 1 + 3 * (9 - L.length))
      else (L, p1 + 1) := by intro L p1 e1 e2; subst e1 e2; rw [← hn]; rfl
  rw [hn] at n2 hL
  have q1 : p ≤ 1000000 := by omega
  simp only [V_seq, V_block, V_region, W_nil, W_cons, effOp2, KN_seq, effOp, effPure, effNew, effBuildSlice, effFrz, frz, tmpsOf, Option.isSome_some, skipE, pureV, ofC, strip, lkT, lkH, ISt.app, opI, gO, gB, allB, gval, wrapG, dstOK, setD, mentTm, mentHp, IV.ment, IV.mentL, partsL, eltsI, idsV, idsL, clean, callArgs, callFn, enumT, conv, conv0, convL, IBlk.shape, Op.operands, reduceIte, reduceCtorEq, cond_true, cond_false, Bool.or_false, Bool.or_true, Bool.and_true, Nat.reduceAdd, Nat.reduceSub, Nat.reduceMul, Nat.reduceLT, Nat.reduceLeDiff, Nat.reduceEqDiff, Nat.reduceBEq, Nat.zero_add, ne_eq, not_false_eq_true, beq_self_eq_true, true_and, and_true, and_false, and_self, implies_true, List.map_cons, List.map_nil, List.nil_append, List.cons_append, List.append_nil, List.all_nil, Option.map_some, List.getD_cons_zero, List.length_nil, ex_clo, Bool.true_eq_false, Bool.false_eq_true, tab47, tab106, hN, Int.toNat_natCast, isBy_enc, toBy_enc, SLe0, convTm, convHp, convB, sm, effH, mkHC0, mkHC1, lendM, lentM, lentI, allHere, addIds, idsB, flatIds, reach, posn, renV, renL, renB, renH, numB, subHp, fwd, bk, bwd, nones, keyOK, noSl, noSlL, flatBs, List.contains, List.elem, Option.isSome_some, List.nodup_nil, List.nodup_cons, List.not_mem_nil, or_false, Option.getD_some, lh_spec_anyHalves_spec_reader_pick, hs_spec_reader_pick, rdr, hb, q1, n2]
  refine ⟨by omega, ?_⟩
  refine V_loop (α := Nat) ⟨tabOK, mixed, gok_spec_anyHalves, hok_spec_anyHalves⟩ (by kernel_rfl) (fun i => i ≤ n) (fun i => ⟨[(4, .num .i64 ((n - i : Nat) : Int)), (3, .ref 5 0 i true), (0, .ptr 1000 0)], [(5, some (.arr 3 106 (encTs (hLoop b i (p + 1))))), (1000, some (rdr b (p + 1 + 3 * i)))]⟩) (fun i => n - i) 0 id (Nat.zero_le _)
    (by simp [SLe, SLe0, convTm, convHp, convB, conv, conv0, convL, lkT, lkH, clean, hLoop, encTs]) ?_
  intro i hi
  have ln := len_encTs (hLoop b i (p + 1))
  rw [hLoop_len] at ln
  have hx : ∃ k ty es, IBlk.arr 3 106 (encTs (hLoop b i (p + 1))) = IBlk.arr k ty es := ⟨_, _, _, rfl⟩
  simp only [V_seq, V_region, V_cond, W_nil, W_cons, effOp2, KN_seq, asB, effOp, effPure, pureV, binV, ofC, strip, lkT, ISt.app, opI, gO, gB, allB, gval, wrapG, dstOK, setD, Op.operands, reduceIte, reduceCtorEq, Nat.reduceLT, Nat.reduceEqDiff, true_and, and_self, implies_true, List.nil_append, List.cons_append, hN, rdr]
  refine brW_some (fun h => ?_) (fun h => ?_)
  · have hlt : i < n := by simp at h; omega
    have w2 : IntKind.i64.wrap (((n - i : Nat) : Int) - 1) = ((n - (i + 1) : Nat) : Int) := by rw [wr (by omega) (by omega)]; omega
    have hs := hLoop_succ b i (p + 1)
    have hle : p + 1 + 3 * i ≤ 800000 := by omega
    have hen : encTs (hLoop b (i + 1) (p + 1)) = (encTs (hLoop b i (p + 1))).take i ++ [IV.agg [.num .i64 (rHalf b (p + 1 + 3 * i)).1, .num .i64 (rHalf b (p + 1 + 3 * i)).2.1, .num .i64 (rHalf b (p + 1 + 3 * i)).2.2]] := by
      rw [hs, ← encTs_app, List.take_of_length_le (by omega)]; rfl
    have hp3 : p + 1 + 3 * (i + 1) = p + 1 + 3 * i + 3 := by omega
    simp only [V_seq, V_skip, V_block, V_region, W_nil, W_cons, effOp2, KN_seq, KN_block, KN_back, effOp, effPure, effNew, effBuildSlice, effFrz, frz, tmpsOf, effAppend, effZeros, Option.isSome_some, skipE, pureV, srcV, refId, binV, ofC, strip, lkT, lkH, ISt.app, opI, gO, gB, allB, gval, wrapG, dstOK, setD, mentTm, mentHp, IV.ment, IV.mentL, partsL, eltsI, eltI, oneI, noId', idsV, idsL, clean, callArgs, callFn, enumT, conv, conv0, convL, IBlk.shape, Op.operands, reduceIte, reduceCtorEq, cond_true, cond_false, Bool.or_false, Bool.or_true, Bool.and_true, Nat.reduceAdd, Nat.reduceSub, Nat.reduceMul, Nat.reduceLT, Nat.reduceLeDiff, Nat.reduceEqDiff, Nat.reduceBEq, Nat.zero_add, ne_eq, not_false_eq_true, beq_self_eq_true, true_and, and_true, and_false, and_self, implies_true, List.map_cons, List.map_nil, List.nil_append, List.cons_append, List.append_nil, List.all_cons, List.all_nil, Option.some.injEq, Option.map_some, List.getD_cons_zero, List.length_cons, List.length_nil, List.take_succ_cons, List.take_nil, List.drop_zero, ex_clo, Bool.true_eq_false, Bool.false_eq_true, tab47, tab106, hN, Int.toNat_natCast, encT, isBy_enc, toBy_enc, SLe0, convTm, convHp, convB, sm, effH, mkHC0, mkHC1, lendM, lentM, lentI, allHere, addIds, idsB, flatIds, reach, posn, renV, renL, renB, renH, numB, subHp, fwd, bk, bwd, nones, keyOK, noSl, noSlL, flatBs, List.contains, List.elem, Option.isSome_some, List.nodup_nil, List.nodup_cons, List.not_mem_nil, or_false, Option.getD_some, lh_spec_anyHalves_spec_randomHalf, hs_spec_randomHalf, rdr, hb, w2, hle, ln]
    repeat refine And.intro (by first | omega | (simp; done) | (simp; omega)) ?_
    refine ⟨i + 1, fun x => if x = 5 then 16 else x, by simp only []; omega, by simp only []; omega, ?_⟩
    simp only [hen, hp3]
    simp [SLe, SLe0, convTm, convHp, convB, conv, conv0, convL, lkT, lkH, clean]
    exact ⟨(List.take_of_length_le (by rw [List.length_append, List.length_take]; exact Nat.le_refl _)).symm, fun id a1 a2 a3 => by omega⟩
  · have hie : i = n := by simp at h; omega
    subst hie
    obtain ⟨L, hLL⟩ : ∃ L, hLoop b i (p + 1) = L := ⟨_, rfl⟩
    obtain ⟨p1, hp1⟩ : ∃ p1, p + 1 + 3 * i = p1 := ⟨_, rfl⟩
    have hB := hA L p1 hLL hp1
    clear hA
    have q0 : Int.toNat 0 = 0 := rfl
    have e2 : ((2 : Nat) : Int) = 2 := rfl
    rw [hLL] at hx ln hL ⊢
    rw [hp1]
    have p1le : p1 ≤ 1000000 := by omega
    have tl := take_encTs L
    rcases Nat.eq_zero_or_pos i with hz | hz
    · subst hz
      rw [if_pos hL] at hB
      have d1 : decide ((0 : Int) < ((0 : Nat) : Int)) = false := rfl
      simp only [V_seq, V_skip, V_ret, V_exit, V_region, V_cond, brW_false, W_nil, W_cons, effOp2, KN_seq, KXr_nil, KXe_nil, KXe_seq, KXe_block, KXe_back, QE, asB, effOp, effPure, Option.isSome_some, pureV, binV, lenV, ofC, strip, lkT, lkH, ISt.app, opI, gO, gB, allB, gval, wrapG, dstOK, setD, conv, conv0, Op.operands, Call.operands, List.append_toArray, reduceIte, reduceCtorEq, Nat.reduceSub, Nat.reduceLT, Nat.reduceEqDiff, ne_eq, not_false_eq_true, true_and, and_true, and_self, false_implies, implies_true, List.map_cons, List.map_nil, List.nil_append, List.cons_append, tab47, hN, FinH, resA, resV, SLe, SLe0, convTm, convHp, convB, Option.isSome_some, List.nodup_nil, List.nodup_cons, List.not_mem_nil, List.mem_cons, or_false, d1, hB, hL]
      exact ⟨fun x => if x = 0 then 5 else x, by simp [convL, conv, conv0, clean]; omega⟩
    · have d1 : decide ((0 : Int) < ((i : Nat) : Int)) = true := by simpa using hz
      rw [if_neg (by omega)] at hB
      have pk := pick_nonneg hb (show p1 ≤ 1000000000 by omega) 18
      by_cases c0 : pickI b p1 18 = 0
      · have d2 : (pickI b p1 18 == 0) = true := by simpa using c0
        rw [if_pos c0] at hB
        have hset := encTs_set L 0 (0, 0, 1)
        simp only [V_seq, V_ret, V_exit, V_block, V_region, V_cond, brW_true, W_nil, W_cons, effOp2, KN_seq, KN_block, KXr_nil, KXe_nil, KXe_seq, KXe_block, KXe_back, QE, asB, effOp, effPure, effStore, Option.isSome_some, skipE, pureV, storeV, binV, iaddrV, lenV, over, solid, buildL, IV.cells, ofC, strip, lkT, lkH, ISt.app, opI, gO, gB, allB, gval, wrapG, dstOK, setD, mentTm, mentHp, IV.ment, IV.mentL, eltI, oneI, noId', idsV, idsL, clean, callArgs, callFn, enumT, conv, conv0, convL, IBlk.shape, Op.operands, Call.operands, List.append_toArray, reduceIte, reduceCtorEq, cond_true, cond_false, Bool.or_false, Bool.or_true, Bool.and_true, Bool.true_and, Nat.reduceAdd, Nat.reduceSub, Nat.reduceMul, Nat.reduceLT, Nat.reduceLeDiff, Nat.reduceEqDiff, Nat.reduceBEq, Nat.add_zero, Nat.zero_add, ne_eq, not_false_eq_true, beq_self_eq_true, true_and, and_true, and_false, and_self, false_implies, implies_true, forall_const, List.map_cons, List.map_nil, List.nil_append, List.cons_append, List.append_nil, List.all_cons, List.all_nil, Option.map_some, List.getD_cons_zero, List.getD_cons_succ, List.length_cons, List.length_nil, List.take_succ_cons, List.take_zero, List.drop_succ_cons, List.drop_nil, ex_clo, Bool.true_eq_false, Bool.false_eq_true, tab47, tab106, hN, Int.toNat_natCast, isBy_enc, toBy_enc, FinH, resA, resV, SLe, SLe0, convTm, convHp, convB, sm, effH, mkHC0, mkHC1, lendM, lentM, lentI, allHere, addIds, idsB, flatIds, reach, posn, renV, renL, renB, renH, numB, subHp, fwd, bk, bwd, nones, keyOK, noSl, noSlL, flatBs, List.contains, List.elem, Option.isSome_some, List.nodup_nil, List.nodup_cons, List.not_mem_nil, List.mem_cons, or_false, Option.getD_some, lh_spec_anyHalves_spec_reader_pick, hs_spec_reader_pick, rdr, hb, ln, d1, d2, hB, p1le, q0, hset]
        exact ⟨by omega, ⟨by omega, by omega⟩, hz, fun x => if x = 0 then 5 else x, by simp [convL, conv, conv0, clean, hL]; omega⟩
      · have d2 : (pickI b p1 18 == 0) = false := by simpa using c0
        rw [if_neg c0] at hB
        by_cases c1 : pickI b p1 18 = 1
        · have d3 : (pickI b p1 18 == 1) = true := by simpa using c1
          rw [if_pos c1] at hB
          have g0 := getD_encTs (l := L) (i := 0) (by omega)
          have hset := encTs_set L 0 ((tAt L 0).1, (tAt L 0).2.1, [4000001, -4000001].getD (pickI b (p1 + 1) 2).toNat 0)
          have p2 : p1 + 1 ≤ 900000 := by omega
          simp only [V_seq, V_ret, V_exit, V_block, V_region, V_cond, brW_true, brW_false, W_nil, W_cons, effOp2, KN_seq, KN_block, KXr_nil, KXe_nil, KXe_seq, KXe_block, KXe_back, QE, asB, effOp, effPure, effNew, effBuildSlice, effFrz, frz, tmpsOf, effStore, Option.isSome_some, skipE, pureV, storeV, binV, faddrV, iaddrV, lenV, over, solid, IV.cells, ofC, strip, lkT, lkH, ISt.app, opI, gO, gB, allB, gval, wrapG, dstOK, setD, mentTm, mentHp, IV.ment, IV.mentL, partsL, eltsI, eltI, oneI, noId', idsV, idsL, clean, callArgs, callFn, enumT, conv, conv0, convL, IBlk.shape, Op.operands, Call.operands, List.append_toArray, reduceIte, reduceCtorEq, cond_true, cond_false, Bool.or_false, Bool.or_true, Bool.and_true, Bool.false_and, Nat.reduceAdd, Nat.reduceSub, Nat.reduceMul, Nat.reduceLT, Nat.reduceLeDiff, Nat.reduceEqDiff, Nat.reduceBEq, Nat.add_zero, Nat.zero_add, ne_eq, not_false_eq_true, beq_self_eq_true, true_and, and_true, false_and, and_false, and_self, false_implies, implies_true, forall_const, List.map_cons, List.map_nil, List.nil_append, List.cons_append, List.append_nil, List.all_cons, List.all_nil, Option.some.injEq, Option.map_some, List.getD_cons_zero, List.getD_cons_succ, List.length_cons, List.length_nil, List.take_succ_cons, List.take_zero, List.take_nil, List.drop_succ_cons, List.drop_nil, ex_clo, or_self, Bool.true_eq_false, Bool.false_eq_true, tab3, tab47, tab62, tab106, hN, Int.toNat_natCast, isBy_enc, toBy_enc, isIs_nil, toIs_nil, isIs_cons, toIs_cons, FinH, resA, resV, SLe, SLe0, convTm, convHp, convB, sm, effH, mkHC0, mkHC1, lendM, lentM, lentI, allHere, addIds, idsB, flatIds, reach, posn, renV, renL, renB, renH, numB, subHp, fwd, bk, bwd, nones, keyOK, noSl, noSlL, flatBs, List.contains, List.elem, Option.isSome_some, List.nodup_nil, List.nodup_cons, List.not_mem_nil, List.mem_cons, or_false, Option.getD_some, lh_spec_anyHalves_spec_reader_pick, lh_spec_anyHalves_spec_reader_one, hs_spec_reader_pick, hs_spec_reader_one, rdr, hb, ln, hx, d1, d2, d3, hB, p1le, p2, q0, e2, g0, hset]
          refine ⟨by omega, List.take_length.symm, ⟨by omega, by omega⟩, hz, fun x => if x = 0 then 5 else x, ?_⟩
          simp [convL, conv, conv0, clean, hL]
          exact ⟨by omega, fun id h1 h2 h3 => by omega⟩
        · have d3 : (pickI b p1 18 == 1) = false := by simpa using c1
          rw [if_neg c1] at hB
          by_cases c2 : pickI b p1 18 = 2
          · have d4 : (pickI b p1 18 == 2) = true := by simpa using c2
            rw [if_pos c2] at hB
            simp only [V_seq, V_exit, V_block, V_region, V_cond, brW_true, brW_false, W_nil, W_cons, effOp2, KN_seq, KXe_nil, KXe_seq, KXe_block, KXe_back, QE, asB, effOp, effPure, Option.isSome_some, skipE, pureV, binV, lenV, ofC, strip, lkT, lkH, ISt.app, opI, gO, gB, allB, gval, wrapG, dstOK, setD, mentTm, mentHp, IV.ment, IV.mentL, idsV, idsL, clean, callArgs, callFn, enumT, conv, conv0, convL, IBlk.shape, Op.operands, Call.operands, List.append_toArray, reduceIte, reduceCtorEq, cond_true, cond_false, Bool.or_false, Bool.or_true, Bool.and_true, Nat.reduceAdd, Nat.reduceSub, Nat.reduceMul, Nat.reduceLT, Nat.reduceLeDiff, Nat.reduceEqDiff, Nat.reduceBEq, Nat.zero_add, ne_eq, not_false_eq_true, beq_self_eq_true, true_and, and_true, and_false, and_self, implies_true, List.map_cons, List.map_nil, List.nil_append, List.cons_append, List.append_nil, List.all_nil, Option.map_some, List.getD_cons_zero, ex_clo, Bool.true_eq_false, Bool.false_eq_true, tab47, hN, Int.toNat_natCast, isBy_enc, toBy_enc, FinH, SLe0, convTm, convHp, convB, sm, effH, mkHC0, mkHC1, lendM, lentM, lentI, allHere, addIds, idsB, flatIds, reach, posn, renV, renL, renB, renH, numB, subHp, fwd, bk, bwd, nones, keyOK, noSl, noSlL, flatBs, List.contains, List.elem, Option.isSome_some, List.nodup_nil, List.nodup_cons, List.not_mem_nil, or_false, Option.getD_some, lh_spec_anyHalves_spec_reader_pick, hs_spec_reader_pick, rdr, hb, d1, d2, d3, d4, p1le]
            refine ⟨by omega, ?_⟩
            refine V_loop (α := Nat) ⟨tabOK, mixed, gok_spec_anyHalves, hok_spec_anyHalves⟩ (by kernel_rfl) (fun j => j ≤ 9 - i) (fun j => ⟨[(3, .ref 5 0 (i + j) true), (0, .ptr 1000 0)], [(5, some (.arr 3 106 (encTs (L ++ hLoop b j (p1 + 1))))), (1000, some (rdr b (p1 + 1 + 3 * j)))]⟩) (fun j => 9 - i - j) 0 id (Nat.zero_le _)
              (by simp [SLe, SLe0, convTm, convHp, convB, conv, conv0, convL, lkT, lkH, clean, hLoop]) ?_
            intro j hj
            have ln2 : (encTs (L ++ hLoop b j (p1 + 1))).length = i + j := by rw [len_encTs, List.length_append, hLoop_len, hL]
            have hx2 : ∃ k ty es, IBlk.arr 3 106 (encTs (L ++ hLoop b j (p1 + 1))) = IBlk.arr k ty es := ⟨_, _, _, rfl⟩
            simp only [V_seq, V_region, V_cond, W_nil, W_cons, effOp2, KN_seq, asB, effOp, effPure, pureV, binV, lenV, ofC, strip, lkT, ISt.app, opI, gO, gB, allB, gval, wrapG, dstOK, setD, Op.operands, Call.operands, List.append_toArray, reduceIte, reduceCtorEq, Nat.reduceLT, Nat.reduceEqDiff, ne_eq, not_false_eq_true, true_and, and_self, implies_true, List.nil_append, List.cons_append, tab47, hN, rdr]
            refine brW_some (fun h => ?_) (fun h => ?_)
            · have hlt : i + j < 9 := by simp at h; omega
              have hs := hLoop_succ b j (p1 + 1)
              have hle : p1 + 1 + 3 * j ≤ 800000 := by omega
              have hp3 : p1 + 1 + 3 * (j + 1) = p1 + 1 + 3 * j + 3 := by omega
              have hij : i + (j + 1) = i + j + 1 := by omega
              have hen : encTs (L ++ hLoop b (j + 1) (p1 + 1)) = (encTs (L ++ hLoop b j (p1 + 1))).take (i + j) ++ [IV.agg [.num .i64 (rHalf b (p1 + 1 + 3 * j)).1, .num .i64 (rHalf b (p1 + 1 + 3 * j)).2.1, .num .i64 (rHalf b (p1 + 1 + 3 * j)).2.2]] := by
                rw [hs, ← List.append_assoc, ← encTs_app (L ++ hLoop b j (p1 + 1)), List.take_of_length_le (by omega)]; rfl
              simp only [V_skip, V_block, V_region, W_nil, W_cons, effOp2, KN_seq, KN_block, KN_back, effOp, effPure, effNew, effBuildSlice, effFrz, frz, tmpsOf, effAppend, effZeros, Option.isSome_some, skipE, pureV, srcV, refId, strip, lkT, lkH, ISt.app, opI, gO, gB, allB, gval, wrapG, dstOK, setD, mentTm, mentHp, IV.ment, IV.mentL, partsL, eltsI, eltI, oneI, noId', idsV, idsL, clean, callArgs, callFn, enumT, conv, conv0, convL, IBlk.shape, Op.operands, reduceIte, reduceCtorEq, cond_true, cond_false, Bool.or_false, Bool.or_true, Bool.and_true, Nat.reduceAdd, Nat.reduceSub, Nat.reduceMul, Nat.reduceLT, Nat.reduceLeDiff, Nat.reduceEqDiff, Nat.reduceBEq, Nat.zero_add, ne_eq, not_false_eq_true, beq_self_eq_true, true_and, and_true, and_false, and_self, implies_true, List.map_cons, List.map_nil, List.nil_append, List.cons_append, List.append_nil, List.all_cons, List.all_nil, Option.some.injEq, Option.map_some, List.getD_cons_zero, List.length_cons, List.length_nil, List.take_succ_cons, List.take_nil, List.drop_zero, ex_clo, Bool.true_eq_false, Bool.false_eq_true, tab47, tab106, hN, Int.toNat_natCast, encT, isBy_enc, toBy_enc, SLe0, convTm, convHp, convB, sm, effH, mkHC0, mkHC1, lendM, lentM, lentI, allHere, addIds, idsB, flatIds, reach, posn, renV, renL, renB, renH, numB, subHp, fwd, bk, bwd, nones, keyOK, noSl, noSlL, flatBs, List.contains, List.elem, Option.isSome_some, List.nodup_nil, List.nodup_cons, List.not_mem_nil, or_false, Option.getD_some, lh_spec_anyHalves_spec_randomHalf, hs_spec_randomHalf, rdr, hb, ln2, hle]
              repeat refine And.intro (by first | omega | (simp; done) | (simp; omega)) ?_
              refine ⟨j + 1, fun x => if x = 5 then 44 else x, by simp only []; omega, by simp only []; omega, ?_⟩
              simp only [hen, hp3, hij]
              simp [SLe, SLe0, convTm, convHp, convB, conv, conv0, convL, lkT, lkH, clean]
              exact ⟨(List.take_of_length_le (by rw [List.length_append, List.length_take]; exact Nat.le_refl _)).symm, fun id a1 a2 a3 => by omega⟩
            · have hje : j = 9 - i := by simp at h; omega
              have e9 : (L ++ hLoop b (9 - i) (p1 + 1)).length = i + (9 - i) := by rw [List.length_append, hLoop_len, hL]
              subst hje
              rw [hL] at hB
              simp only [V_seq, V_ret, V_exit, V_region, W_nil, W_cons, effOp2, KN_seq, KN_block, KXr_nil, KXe_nil, KXe_seq, KXe_block, KXe_back, QE, effOp, effPure, Option.isSome_some, pureV, strip, lkT, lkH, ISt.app, opI, gO, gB, allB, gval, wrapG, dstOK, setD, conv, conv0, Op.operands, reduceIte, reduceCtorEq, Nat.reduceLT, Nat.reduceEqDiff, not_false_eq_true, true_and, and_true, and_self, false_implies, implies_true, List.map_cons, List.map_nil, List.nil_append, List.cons_append, hN, FinH, resA, resV, SLe, SLe0, convTm, convHp, convB, Option.isSome_some, List.nodup_nil, List.nodup_cons, List.not_mem_nil, List.mem_cons, or_false, hB, e9]
              exact ⟨fun x => if x = 0 then 5 else x, by simp [convL, conv, conv0, clean]; omega⟩
          · have d4 : (pickI b p1 18 == 2) = false := by simpa using c2
            rw [if_neg c2] at hB
            simp only [V_seq, V_skip, V_ret, V_exit, V_block, V_region, V_cond, brW_true, brW_false, W_nil, W_cons, effOp2, KN_seq, KN_block, KXr_nil, KXe_nil, KXe_seq, KXe_block, KXe_back, QE, asB, effOp, effPure, Option.isSome_some, skipE, pureV, binV, lenV, ofC, strip, lkT, lkH, ISt.app, opI, gO, gB, allB, gval, wrapG, dstOK, setD, mentTm, mentHp, IV.ment, IV.mentL, idsV, idsL, clean, callArgs, callFn, enumT, conv, conv0, convL, IBlk.shape, Op.operands, Call.operands, List.append_toArray, reduceIte, reduceCtorEq, cond_true, cond_false, Bool.or_false, Bool.or_true, Bool.and_true, Nat.reduceAdd, Nat.reduceSub, Nat.reduceMul, Nat.reduceLT, Nat.reduceLeDiff, Nat.reduceEqDiff, Nat.reduceBEq, Nat.zero_add, ne_eq, not_false_eq_true, beq_self_eq_true, true_and, and_true, and_false, and_self, false_implies, implies_true, List.map_cons, List.map_nil, List.nil_append, List.cons_append, List.append_nil, List.all_nil, Option.map_some, List.getD_cons_zero, ex_clo, Bool.true_eq_false, Bool.false_eq_true, tab47, hN, Int.toNat_natCast, isBy_enc, toBy_enc, FinH, resA, resV, SLe, SLe0, convTm, convHp, convB, sm, effH, mkHC0, mkHC1, lendM, lentM, lentI, allHere, addIds, idsB, flatIds, reach, posn, renV, renL, renB, renH, numB, subHp, fwd, bk, bwd, nones, keyOK, noSl, noSlL, flatBs, List.contains, List.elem, Option.isSome_some, List.nodup_nil, List.nodup_cons, List.not_mem_nil, List.mem_cons, or_false, Option.getD_some, lh_spec_anyHalves_spec_reader_pick, hs_spec_reader_pick, rdr, hb, d1, d2, d3, d4, hB, hL, p1le]
            exact ⟨by omega, fun x => if x = 0 then 5 else x, by simp [convL, conv, conv0, clean]; omega⟩
def hs_spec_anyHalves : HSpec := ⟨[false], fun xs hp => match xs, hp with | [.ptr 1000 0], [(1000, .box ty [.sl 1 es, .num .i64 pz])] => (isBy es) ∧ (ty = 168) ∧ (pz = (pz.toNat : Int)) ∧ ((fun (b : List Int) (p : Nat) => BytesOK b) (toIs es) pz.toNat) ∧ ((fun (b : List Int) (p : Nat) => p ≤ 700000) (toIs es) pz.toNat) | _, _ => False, fun xs hp => match xs, hp with | [.ptr 1000 0], [(1000, .box ty [.sl 1 es, .num .i64 pz])] => (fun (b : List Int) (p : Nat) => (.ref 0 0 (aHalves b p).1.length true : IV)) (toIs es) pz.toNat | _, _ => .junk, fun xs hp => match xs, hp with | [.ptr 1000 0], [(1000, .box ty [.sl 1 es, .num .i64 pz])] => (fun (b : List Int) (p : Nat) => ([(0, .arr 3 106 (encTs (aHalves b p).1)), (1000, rdr b (aHalves b p).2)] : List (Nat × IBlk))) (toIs es) pz.toNat | _, _ => []⟩
theorem hk_spec_anyHalves : ∀ args hp, hs_spec_anyHalves.pre args hp → HCall Try.prog 109 args (sm hp) (hs_spec_anyHalves.val args hp) (sm (hs_spec_anyHalves.hval args hp)) := by
  intro args hp h
  unfold hs_spec_anyHalves at h ⊢; simp only at h ⊢; split at h
  · obtain ⟨h1, rfl, h3, h4, h5⟩ := h; obtain ⟨l, rfl⟩ := isBy_ex h1; rw [toBy_enc] at *; rw [h3]; exact c_spec_anyHalves l _ h4 (by simpa using h5)
  · exact h.elim
theorem en_spec_anyHalves : Enters Try.prog 109 := enters_of Try.func109 (by kernel_rfl) rfl


/-- The half-planes that a code draws. -/
def drawHs (b : List Int) : List Tr := (aHalves (b.take 2000) 0).1
def g_spec_DrawHighest : List (Nat × PSpec) := []
theorem gok_spec_DrawHighest : GOK Try.prog g_spec_DrawHighest := gok0
def h_spec_DrawHighest : List (Nat × HSpec) := [(110, hs_spec_newReader), (109, hs_spec_anyHalves)]
theorem hok_spec_DrawHighest : HOK Try.prog h_spec_DrawHighest := hok_cons hk_spec_newReader en_spec_newReader (hok_cons hk_spec_anyHalves en_spec_anyHalves (hok0))
theorem lh_spec_DrawHighest_spec_newReader : lkHS h_spec_DrawHighest 110 = some hs_spec_newReader := rfl
theorem lh_spec_DrawHighest_spec_anyHalves : lkHS h_spec_DrawHighest 109 = some hs_spec_anyHalves := rfl
theorem c_spec_DrawHighest (b : List Int) (hb : ∀ x ∈ b, 0 ≤ x ∧ x < 256) (hsz : b.length ≤ 1048576) : ICall Try.prog 36 [.sl 1 (encBy b)] (.sl 3 (encTs (drawHs b))) := by
  refine icall_V (G := g_spec_DrawHighest) (H := h_spec_DrawHighest) [] tabOK mixed gok_spec_DrawHighest hok_spec_DrawHighest Try.func36 rfl Try.ntmps36 Try.results36 rfl (by kernel_rfl) fun F hN hlen => ?_
  have hbt := bytes_take hb
  have hd : (aHalves (b.take 2000) 0).1 = drawHs b := rfl
  simp only [V_seq, V_ret, V_region, W_nil, W_cons, effOp2, KN_seq, KXr_nil, QE, effOp, effPure, Option.isSome_some, skipE, pureV, ofC, strip, lkT, lkH, ISt.app, opI, gO, gB, allB, gval, wrapG, dstOK, setD, mentTm, mentHp, IV.ment, IV.mentL, lendV, lendP, lent, lentP, idsV, idsL, clean, callArgs, callFn, enumT, Gives, Ideal.Fin, conv, conv0, convL, IBlk.shape, Op.operands, reduceIte, reduceCtorEq, cond_true, cond_false, Bool.or_false, Bool.and_true, Bool.and_false, Bool.not_false, Nat.reduceAdd, Nat.reduceSub, Nat.reduceMul, Nat.reduceLT, Nat.reduceLeDiff, Nat.reduceEqDiff, Nat.reduceBEq, Nat.add_zero, Nat.zero_add, ne_eq, not_false_eq_true, beq_self_eq_true, true_and, and_true, and_false, and_self, false_implies, implies_true, List.map_cons, List.map_nil, List.nil_append, List.cons_append, List.append_nil, List.all_nil, Option.some.injEq, Option.map_some, Option.map_none, List.getD_cons_zero, List.drop_zero, ex_clo, or_self, Bool.true_eq_false, Bool.false_eq_true, hN, Int.toNat_natCast, isBy_enc, toBy_enc, SLe0, convTm, convHp, convB, sm, effH, mkHC0, mkHC1, lendM, lentM, lentI, allHere, addIds, idsB, flatIds, reach, posn, renV, renL, renB, renH, numB, subHp, fwd, bk, bwd, nones, keyOK, noSl, noSlL, flatBs, List.contains, List.elem, Option.isSome_some, Option.isSome_none, List.nodup_nil, List.nodup_cons, List.not_mem_nil, List.mem_cons, or_false, Option.getD_some, lh_spec_DrawHighest_spec_newReader, lh_spec_DrawHighest_spec_anyHalves, hs_spec_newReader, hs_spec_anyHalves, rdr, hsz, hbt, hd]
  exact ⟨List.take_length.symm, _, _, rfl, by rw [len_encTs]; exact Nat.le_refl _, (take_encTs _).symm⟩
def sp_spec_DrawHighest : PSpec := ⟨fun xs => match xs with | [.sl 1 bes] => isBy bes ∧ ((fun (b : List Int) => ∀ x ∈ b, 0 ≤ x ∧ x < 256) (toIs bes)) ∧ ((fun (b : List Int) => b.length ≤ 1048576) (toIs bes)) | _ => False, fun xs => match xs with | [.sl _ bes] => (fun (b : List Int) => .sl 3 (encTs (drawHs b))) (toIs bes) | _ => .junk, false⟩
theorem gk_spec_DrawHighest : ∀ args, sp_spec_DrawHighest.pre args → ICall Try.prog 36 args (sp_spec_DrawHighest.val args) := by
  intro args h
  unfold sp_spec_DrawHighest at h ⊢; simp only at h ⊢; split at h
  · obtain ⟨h0, h1, h2⟩ := h
    obtain ⟨l0, rfl⟩ := isBy_ex h0
    simp only [toBy_enc] at *
    exact c_spec_DrawHighest _ h1 h2
  · exact h.elim
theorem en_spec_DrawHighest : Enters Try.prog 36 := enters_of Try.func36 (by kernel_rfl) rfl

theorem okR_valid {r : Pt} (h : okR r) : (inR r.1 (-100000000000) 100000000000 && (inR r.2 1 20000000 && (Int.gcd r.1 r.2 : Int) == 1)) = true := by
  obtain ⟨h1, h2, h3, h4, h5⟩ := h
  simp only [inR, Bool.and_eq_true, decide_eq_true_eq, beq_iff_eq]
  exact ⟨⟨by omega, by omega⟩, ⟨by omega, by omega⟩, by omega⟩
def g_impl_Rat_valid : List (Nat × PSpec) := [(101, sp_impl_within), (106, sp_impl_divisor)]
theorem gok_impl_Rat_valid : GOK Try.prog g_impl_Rat_valid := gok_cons gk_impl_within en_impl_within (gok_cons gk_impl_divisor en_impl_divisor (gok0))
theorem lk_impl_Rat_valid_impl_within : lkG g_impl_Rat_valid 101 = sp_impl_within := rfl
theorem lk_impl_Rat_valid_impl_divisor : lkG g_impl_Rat_valid 106 = sp_impl_divisor := rfl
def h_impl_Rat_valid : List (Nat × HSpec) := []
theorem hok_impl_Rat_valid : HOK Try.prog h_impl_Rat_valid := hok0
theorem c_impl_Rat_valid (r : Pt) (h : okR r) : ICall Try.prog 113 [encP r] (.bool true) := by
  refine icall_V (G := g_impl_Rat_valid) (H := []) [] tabOK mixed gok_impl_Rat_valid hok_impl_Rat_valid Try.func113 rfl Try.ntmps113 Try.results113 rfl (by kernel_rfl) fun F hN hlen => ?_
  obtain ⟨h1, h2, h3, h4, h5⟩ := h
  have a1 : inR r.1 (-100000000000) 100000000000 = true := by simp only [inR, Bool.and_eq_true, decide_eq_true_eq]; omega
  have a2 : inR r.2 1 20000000 = true := by simp only [inR, Bool.and_eq_true, decide_eq_true_eq]; omega
  have z1 : -9223372036854775807 ≤ r.1 ∧ r.1 ≤ 9223372036854775807 := by omega
  have z2 : -9223372036854775807 ≤ r.2 ∧ r.2 ≤ 9223372036854775807 := by omega
  have a3 : (Int.gcd r.1 r.2 : Int) = 1 := by omega
  have a4 : ((1 : Int) == 1) = true := rfl
  simp only [V_seq, V_ret, V_region, W_nil, W_cons, effOp2, KN_seq, KXr_nil, QE, effOp, effPure, effPick, effNew, effBox, effCall, giveUp, hasAll, skipE, pureV, pickV, binV, partV, loadV, faddrV, solid, IV.cells, ofC, strip, lkT, lkH, ISt.app, opI, gO, gB, allB, gval, wrapG, dstOK, setD, mentTm, mentHp, IV.ment, IV.mentL, oneI, lendV, lendP, lent, lentP, idsV, idsL, lkHS, flat, clean, callArgs, callFn, allLent, enumT, Gives, Ideal.Fin, conv, conv0, IBlk.shape, Op.operands, reduceIte, reduceCtorEq, cond_true, Bool.or_false, Bool.and_true, Bool.not_true, Nat.reduceAdd, Nat.reduceLT, Nat.reduceLeDiff, Nat.reduceEqDiff, Nat.add_zero, Nat.zero_add, beq_self_eq_true, and_self, implies_true, List.map_cons, List.map_nil, List.nil_append, List.cons_append, List.append_nil, List.all_cons, List.all_nil, Option.map_some, Option.bind_some, List.getElem?_cons_zero, List.getElem?_cons_succ, List.getD_cons_zero, List.getD_cons_succ, List.length_cons, List.length_nil, List.take_succ_cons, List.take_zero, List.take_nil, List.drop_succ_cons, List.drop_zero, ex_clo, or_self, Bool.true_eq_false, tab3, tab53, hN, encP, lk_impl_Rat_valid_impl_within, lk_impl_Rat_valid_impl_divisor, sp_impl_within, sp_impl_divisor, a1, a2, z1, z2, a3]
def sp_impl_Rat_valid : PSpec := ⟨fun xs => match xs with | [.agg [.num .i64 r1, .num .i64 r2]] => ((fun (r : Pt) => okR r) (r1, r2)) | _ => False, fun xs => match xs with | [.agg [.num _ r1, .num _ r2]] => (fun (r : Pt) => .bool true) (r1, r2) | _ => .junk, false⟩
theorem gk_impl_Rat_valid : ∀ args, sp_impl_Rat_valid.pre args → ICall Try.prog 113 args (sp_impl_Rat_valid.val args) := by
  intro args h
  unfold sp_impl_Rat_valid at h ⊢; simp only at h ⊢; split at h
  · have h0 := h
    simp only [toPs_enc] at *
    exact c_impl_Rat_valid (_, _) h0
  · exact h.elim
theorem en_impl_Rat_valid : Enters Try.prog 113 := enters_of Try.func113 (by kernel_rfl) rfl

def g_impl_CompareRats : List (Nat × PSpec) := [(113, sp_impl_Rat_valid), (111, sp_impl_Rat_compare)]
theorem gok_impl_CompareRats : GOK Try.prog g_impl_CompareRats := gok_cons gk_impl_Rat_valid en_impl_Rat_valid (gok_cons gk_impl_Rat_compare en_impl_Rat_compare (gok0))
theorem lk_impl_CompareRats_impl_Rat_valid : lkG g_impl_CompareRats 113 = sp_impl_Rat_valid := rfl
theorem lk_impl_CompareRats_impl_Rat_compare : lkG g_impl_CompareRats 111 = sp_impl_Rat_compare := rfl
def h_impl_CompareRats : List (Nat × HSpec) := []
theorem hok_impl_CompareRats : HOK Try.prog h_impl_CompareRats := hok0
theorem c_impl_CompareRats (r : Pt) (s : Pt) (hr : okR r) (hs : okR s) : ICall Try.prog 40 [encP r, encP s] (.num .i64 (cmpRt r s)) := by
  refine icall_V (G := g_impl_CompareRats) (H := []) [] tabOK mixed gok_impl_CompareRats hok_impl_CompareRats Try.func40 rfl Try.ntmps40 Try.results40 rfl (by kernel_rfl) fun F hN hlen => ?_
  simp only [V_seq, V_skip, V_ret, V_region, V_cond, brW_false, W_nil, W_cons, effOp2, KN_seq, KXr_nil, QE, asB, effOp, effPure, effPick, effNew, effBox, effCall, giveUp, hasAll, skipE, pureV, pickV, partV, loadV, solid, IV.cells, ofC, strip, lkT, lkH, ISt.app, opI, gO, gB, allB, gval, wrapG, dstOK, setD, mentTm, mentHp, IV.ment, IV.mentL, oneI, lendV, lendP, lent, lentP, idsV, idsL, lkHS, flat, clean, callArgs, callFn, allLent, enumT, Gives, Ideal.Fin, conv, conv0, Op.operands, reduceIte, reduceCtorEq, cond_true, cond_false, Bool.or_false, Bool.and_true, Bool.not_true, Nat.reduceAdd, Nat.reduceLT, Nat.reduceLeDiff, Nat.reduceEqDiff, Nat.reduceBEq, Nat.zero_add, beq_self_eq_true, and_false, and_self, implies_true, List.map_cons, List.map_nil, List.nil_append, List.cons_append, List.append_nil, List.all_cons, List.all_nil, Option.bind_some, List.getElem?_cons_zero, List.getElem?_cons_succ, List.getD_cons_zero, List.length_cons, List.length_nil, List.take_succ_cons, List.take_nil, List.drop_zero, ex_clo, or_self, Bool.false_eq_true, tab53, hN, pe, encP, lk_impl_CompareRats_impl_Rat_valid, lk_impl_CompareRats_impl_Rat_compare, sp_impl_Rat_valid, sp_impl_Rat_compare, hr, hs]
def sp_impl_CompareRats : PSpec := ⟨fun xs => match xs with | [.agg [.num .i64 r1, .num .i64 r2], .agg [.num .i64 s1, .num .i64 s2]] => ((fun (r : Pt) (s : Pt) => okR r) (r1, r2) (s1, s2)) ∧ ((fun (r : Pt) (s : Pt) => okR s) (r1, r2) (s1, s2)) | _ => False, fun xs => match xs with | [.agg [.num _ r1, .num _ r2], .agg [.num _ s1, .num _ s2]] => (fun (r : Pt) (s : Pt) => .num .i64 (cmpRt r s)) (r1, r2) (s1, s2) | _ => .junk, false⟩
theorem gk_impl_CompareRats : ∀ args, sp_impl_CompareRats.pre args → ICall Try.prog 40 args (sp_impl_CompareRats.val args) := by
  intro args h
  unfold sp_impl_CompareRats at h ⊢; simp only at h ⊢; split at h
  · obtain ⟨h0, h1⟩ := h
    simp only [toPs_enc] at *
    exact c_impl_CompareRats (_, _) (_, _) h0 h1
  · exact h.elim
theorem en_impl_CompareRats : Enters Try.prog 40 := enters_of Try.func40 (by kernel_rfl) rfl

def g_laws_FnHighest : List (Nat × PSpec) := [(36, sp_spec_DrawHighest), (37, sp_impl_Highest), (38, sp_spec_Highest), (39, sp_impl_Corners), (40, sp_impl_CompareRats)]
theorem gok_laws_FnHighest : GOK Try.prog g_laws_FnHighest := gok_cons gk_spec_DrawHighest en_spec_DrawHighest (gok_cons gk_impl_Highest en_impl_Highest (gok_cons gk_spec_Highest en_spec_Highest (gok_cons gk_impl_Corners en_impl_Corners (gok_cons gk_impl_CompareRats en_impl_CompareRats (gok0)))))
theorem lk_laws_FnHighest_spec_DrawHighest : lkG g_laws_FnHighest 36 = sp_spec_DrawHighest := rfl
theorem lk_laws_FnHighest_impl_Highest : lkG g_laws_FnHighest 37 = sp_impl_Highest := rfl
theorem lk_laws_FnHighest_spec_Highest : lkG g_laws_FnHighest 38 = sp_spec_Highest := rfl
theorem lk_laws_FnHighest_impl_Corners : lkG g_laws_FnHighest 39 = sp_impl_Corners := rfl
theorem lk_laws_FnHighest_impl_CompareRats : lkG g_laws_FnHighest 40 = sp_impl_CompareRats := rfl
def h_laws_FnHighest : List (Nat × HSpec) := []
theorem hok_laws_FnHighest : HOK Try.prog h_laws_FnHighest := hok0
theorem c_laws_FnHighest (b : List Int) (hb : ∀ x ∈ b, 0 ≤ x ∧ x < 256) : ICall Try.prog 6 [.sl 1 (encBy b)] (.bool true) := by
  refine icall_V (G := g_laws_FnHighest) (H := []) [(14, [(0, 7), (1, 7), (2, 7), (3, 7), (5, 7)])] tabOK mixed gok_laws_FnHighest hok_laws_FnHighest Try.func6 rfl Try.ntmps6 Try.results6 rfl (by kernel_rfl) fun F hN hlen => ?_
  have el := len_encBy b
  have bb : ∀ x : Bool, (x != x) = false := fun x => by simp
  have ee : ∀ x : Int, (x == x) = true := fun x => by simp
  have bb2 : ∀ x : Bool, (x == x) = true := fun x => by simp
  simp only [V_seq, V_region, V_cond, W_nil, W_cons, effOp2, KN_seq, asB, effOp, effPure, pureV, binV, lenV, ofC, strip, lkT, ISt.app, opI, gO, gB, allB, gval, wrapG, dstOK, setD, enumT, Op.operands, Call.operands, List.append_toArray, reduceIte, reduceCtorEq, Nat.reduceLT, Nat.reduceEqDiff, ne_eq, not_false_eq_true, true_and, and_self, implies_true, List.nil_append, List.cons_append, List.append_nil, tab33, hN, el]
  refine brW_some (fun h => ?_) (fun h => ?_)
  · simp only [V_seq, V_ret, V_region, W_nil, W_cons, effOp2, KN_seq, KXr_nil, KXr_seq, QE, effOp, effPure, pureV, ofC, strip, lkT, lkH, ISt.app, opI, gO, gB, allB, gval, wrapG, dstOK, setD, clean, Gives, Ideal.Fin, conv, conv0, Op.operands, reduceIte, reduceCtorEq, Nat.reduceLT, Nat.reduceEqDiff, and_self, implies_true, List.nil_append, List.cons_append, List.append_nil, hN]
  · have hsz : b.length ≤ 1048576 := by simp at h; omega
    obtain ⟨l, hl⟩ : ∃ l, drawHs b = l := ⟨_, rfl⟩
    have hg := cornV_good l
    have hz := cornV_len l
    have hv : highV l = hiF (cornV l) (cornV l).length := rfl
    obtain ⟨c, hc⟩ : ∃ c, cornV l = c := ⟨_, rfl⟩
    rw [hc] at hg hz hv
    have ec := len_encQs c
    rcases Nat.eq_zero_or_pos c.length with h0 | h0
    · have hn : c = [] := List.length_eq_zero_iff.1 h0
      subst hn
      have h3 : posB 0 = false := rfl
      have e0 : encQs [] = [] := rfl
      have d0 : (((0 : Nat) : Int) == 0) = true := rfl
      simp only [V_seq, V_skip, V_ret, V_region, V_cond, brW_true, W_nil, W_cons, effOp2, KN_seq, KXr_nil, KXr_seq, QE, asB, effOp, effPure, effPick, effNew, effAlloc, effStore, effCall, giveUp, hasAll, skipE, pureV, pickV, storeV, binV, partV, loadV, lenV, over, solid, IV.cells, ofC, strip, lkT, lkH, ISt.app, opI, gO, gB, allB, gval, wrapG, dstOK, setD, mentTm, mentHp, IV.ment, IV.mentL, oneI, lendV, lendP, lent, lentP, idsV, idsL, lkHS, flat, flatL, clean, cleanL, callArgs, callFn, allLent, Gives, Ideal.Fin, conv, conv0, eqL, numsOnly, Op.operands, Call.operands, List.append_toArray, reduceIte, reduceCtorEq, cond_true, cond_false, Bool.or_false, Bool.and_true, Bool.not_true, Bool.not_false, Nat.reduceAdd, Nat.reduceLT, Nat.reduceLeDiff, Nat.reduceEqDiff, Nat.reduceBEq, Nat.zero_add, ne_eq, not_false_eq_true, beq_self_eq_true, true_and, and_true, and_false, and_self, implies_true, forall_const, List.map_cons, List.map_nil, List.nil_append, List.cons_append, List.append_nil, List.all_cons, List.all_nil, Option.bind_some, List.getElem?_cons_zero, List.getElem?_cons_succ, List.getD_cons_zero, List.getD_cons_succ, List.length_cons, List.length_nil, List.take_succ_cons, List.take_zero, List.take_nil, List.drop_succ_cons, List.drop_zero, List.drop_nil, ex_clo, or_true, or_self, Bool.true_eq_false, Bool.false_eq_true, tab4, tab24, tab55, hN, encQ, isTs_enc, toTs_enc, isBy_enc, toBy_enc, lk_laws_FnHighest_spec_DrawHighest, lk_laws_FnHighest_impl_Highest, lk_laws_FnHighest_spec_Highest, lk_laws_FnHighest_impl_Corners, sp_spec_DrawHighest, sp_impl_Highest, sp_spec_Highest, sp_impl_Corners, hsz, hl, hc, h3, e0, d0]
      exact hb
    · have h3 : posB c.length = true := posB_pos h0
      obtain ⟨h4, h5⟩ := hi_all hg c.length h0 (Nat.le_refl _)
      rw [← hv] at h4 h5
      have h6 := hg _ h4
      obtain ⟨p, hp⟩ : ∃ p, highV l = p := ⟨_, rfl⟩
      rw [hp] at h4 h5 h6
      simp only [V_seq, V_skip, V_block, V_region, V_cond, brW_false, W_nil, W_cons, effOp2, KN_seq, asB, effOp, effPure, effPick, effNew, effAlloc, effStore, effCall, giveUp, hasAll, skipE, pureV, pickV, storeV, binV, partV, loadV, over, solid, IV.cells, ofC, strip, lkT, lkH, ISt.app, opI, gO, gB, allB, gval, wrapG, dstOK, setD, mentTm, mentHp, IV.ment, IV.mentL, oneI, lendV, lendP, lent, lentP, idsV, idsL, lkHS, flat, flatL, clean, cleanL, callArgs, callFn, allLent, eqL, numsOnly, Op.operands, reduceIte, reduceCtorEq, cond_true, cond_false, Bool.or_false, Bool.and_true, Bool.not_true, Nat.reduceAdd, Nat.reduceLT, Nat.reduceLeDiff, Nat.reduceEqDiff, Nat.reduceBEq, Nat.zero_add, beq_self_eq_true, true_and, and_true, and_false, and_self, implies_true, forall_const, List.map_cons, List.map_nil, List.nil_append, List.cons_append, List.append_nil, List.all_cons, List.all_nil, Option.bind_some, List.getElem?_cons_zero, List.getElem?_cons_succ, List.getD_cons_zero, List.getD_cons_succ, List.length_cons, List.length_nil, List.take_succ_cons, List.take_zero, List.take_nil, List.drop_succ_cons, List.drop_zero, List.drop_nil, ex_clo, or_true, or_self, Bool.false_eq_true, tab4, tab55, hN, encQ, isTs_enc, toTs_enc, isBy_enc, toBy_enc, lk_laws_FnHighest_spec_DrawHighest, lk_laws_FnHighest_impl_Highest, lk_laws_FnHighest_spec_Highest, lk_laws_FnHighest_impl_Corners, sp_spec_DrawHighest, sp_impl_Highest, sp_spec_Highest, sp_impl_Corners, hsz, hl, hc, h3, hp]
      refine ⟨hb, ?_⟩
      refine V_loop (α := Nat) ⟨tabOK, mixed, gok_laws_FnHighest, hok_laws_FnHighest⟩ (by kernel_rfl) (fun i => i ≤ c.length) (fun i => ⟨[(10, .num .i64 i), (9, .bool ((c.take i).any (· == p))), (8, .sl 4 (encQs c)), (4, .ptr 4 0)], [(4, some (.box 55 [.num .i64 p.1.1, .num .i64 p.1.2, .num .i64 p.2.1, .num .i64 p.2.2]))]⟩) (fun i => c.length - i) 0 id (Nat.zero_le _) (by simp [SLe, SLe0, convTm, convHp, convB, conv, conv0, convL, lkT, lkH, clean]) ?_
      intro i hi
      simp only [V_seq, V_region, V_cond, W_nil, W_cons, effOp2, KN_seq, asB, effOp, effPure, pureV, binV, lenV, strip, lkT, ISt.app, opI, gO, gB, allB, gval, wrapG, dstOK, setD, Op.operands, Call.operands, List.append_toArray, reduceIte, reduceCtorEq, Nat.reduceLT, Nat.reduceEqDiff, ne_eq, not_false_eq_true, true_and, and_self, implies_true, List.nil_append, List.cons_append, tab24, hN, ec]
      refine brW_some (fun h => ?_) (fun h => ?_)
      · have hi' : i < c.length := by simpa using h
        have hw := wr_succ hi' (by rw [maxLen_eq]; omega)
        have g0 := getD_encQs hi'
        have hgi : goodQ (qAt c i) := hg _ (by rw [qAt, List.getD, List.getElem?_eq_getElem hi']; exact List.getElem_mem hi')
        have hgi2 := hgi.2
        have h62 := h6.2
        have hlt : ltR p.2 (qAt c i).2 = false := h5 i hi'
        have hst : (c.take (i + 1)).any (· == p) = ((c.take i).any (· == p) || (qAt c i == p)) := by
          rw [take_succ_g (d := ((0, 0), (0, 0))) hi', List.any_append]; simp
        obtain ⟨q, hq⟩ : ∃ q, qAt c i = q := ⟨_, rfl⟩
        rw [hq] at g0 hgi2 hlt hst
        cases h7 : (c.take i).any (· == p) with
        | true =>
          rw [h7, Bool.true_or] at hst
          simp only [V_seq, V_skip, V_block, V_region, V_draw, V_cond, brW_false, drawW, WS_nil, pairsOf, W_nil, W_cons, WD_nil, WD_cons, effOp2, WI_nil, WI_cons, KN_seq, KN_block, KN_back, dynOK, indB, farB, freshB, heapy, asB, effOp, effPure, effPick, effCall, giveUp, hasAll, pureV, pickV, binV, partV, eltV, loadV, faddrV, iaddrV, ofC, strip, lkT, lkH, ISt.app, opI, gO, gB, allB, gval, wrapG, dstOK, setD, mentTm, mentHp, IV.ment, lendV, lendP, lent, lentP, idsV, idsL, lkHS, flat, clean, callArgs, callFn, allLent, IBlk.shape, eqL, numsOnly, Op.operands, Call.operands, List.append_toArray, reduceIte, reduceCtorEq, cond_true, cond_false, Bool.or_false, Bool.and_true, Bool.and_eq_true, Bool.not_true, Bool.not_false, Nat.reduceAdd, Nat.reduceLT, Nat.reduceLeDiff, Nat.reduceEqDiff, Nat.reduceBEq, Nat.zero_add, ne_eq, not_false_eq_true, true_and, and_true, false_and, and_false, and_self, false_implies, implies_true, forall_const, List.map_cons, List.map_nil, List.nil_append, List.cons_append, List.append_nil, Option.map_some, Option.bind_some, List.getElem?_cons_zero, List.getElem?_cons_succ, List.getD_cons_zero, List.getD_cons_succ, List.length_cons, List.length_nil, List.take_succ_cons, List.take_zero, List.take_nil, List.drop_succ_cons, List.drop_zero, ex_clo, btf, or_self, Bool.true_eq_false, Bool.false_eq_true, tab24, tab53, tab55, hN, pe, Int.toNat_natCast, lk_laws_FnHighest_impl_CompareRats, sp_impl_CompareRats, ec, hw, g0, hgi2, h62, cmpR_pos, hlt, eqQ]
          repeat refine And.intro (by first | omega | (simp; done) | (simp; omega)) ?_
          refine ⟨i + 1, id, by simp only []; omega, by simp only []; omega, ?_⟩
          simp only [hst]
          exact by simp [SLe, SLe0, convTm, convHp, convB, conv, conv0, convL, lkT, lkH, clean]
        | false =>
          rw [h7, Bool.false_or] at hst
          simp only [V_seq, V_skip, V_block, V_region, V_draw, V_cond, brW_false, drawW, WS_nil, pairsOf, W_nil, W_cons, WD_nil, WD_cons, effOp2, WI_nil, WI_cons, KN_seq, KN_block, KN_back, dynOK, indB, farB, freshB, heapy, asB, effOp, effPure, effPick, effCall, giveUp, hasAll, pureV, pickV, binV, partV, eltV, loadV, faddrV, iaddrV, ofC, strip, lkT, lkH, ISt.app, opI, gO, gB, allB, gval, wrapG, dstOK, setD, mentTm, mentHp, IV.ment, lendV, lendP, lent, lentP, idsV, idsL, lkHS, flat, clean, callArgs, callFn, allLent, IBlk.shape, eqL, numsOnly, Op.operands, Call.operands, List.append_toArray, reduceIte, reduceCtorEq, cond_true, cond_false, Bool.or_false, Bool.and_true, Bool.and_eq_true, Bool.not_true, Bool.not_false, Nat.reduceAdd, Nat.reduceLT, Nat.reduceLeDiff, Nat.reduceEqDiff, Nat.reduceBEq, Nat.zero_add, ne_eq, not_false_eq_true, beq_self_eq_true, true_and, and_true, and_false, and_self, implies_true, forall_const, List.map_cons, List.map_nil, List.nil_append, List.cons_append, List.append_nil, Option.map_some, Option.bind_some, List.getElem?_cons_zero, List.getElem?_cons_succ, List.getD_cons_zero, List.getD_cons_succ, List.length_cons, List.length_nil, List.take_succ_cons, List.take_zero, List.take_nil, List.drop_succ_cons, List.drop_zero, ex_clo, or_self, Bool.false_eq_true, tab24, tab53, tab55, hN, pe, Int.toNat_natCast, lk_laws_FnHighest_impl_CompareRats, sp_impl_CompareRats, ec, hw, g0, hgi2, h62, cmpR_pos, hlt, eqQ]
          repeat refine And.intro (by first | omega | (simp; done) | (simp; omega)) ?_
          refine ⟨i + 1, id, by simp only []; omega, by simp only []; omega, ?_⟩
          simp only [hst]
          exact by simp [SLe, SLe0, convTm, convHp, convB, conv, conv0, convL, lkT, lkH, clean]
      · have hie : i = c.length := by simp at h; omega
        subst hie
        have hany : (c.take c.length).any (· == p) = true := by
          rw [List.take_length, List.any_eq_true]; exact ⟨p, h4, by simp⟩
        simp only [V_seq, V_ret, V_exit, V_region, W_nil, W_cons, effOp2, KN_seq, KXr_nil, KXe_nil, KXe_seq, KXe_block, KXe_back, QE, effOp, effPure, pureV, strip, lkT, lkH, ISt.app, opI, gO, gB, allB, gval, wrapG, dstOK, setD, clean, Gives, Ideal.Fin, conv, conv0, Op.operands, reduceIte, Nat.reduceLT, Nat.reduceEqDiff, and_self, implies_true, List.nil_append, List.cons_append, hN, hany]
def sp_laws_FnHighest : PSpec := ⟨fun xs => match xs with | [.sl 1 bes] => isBy bes ∧ ((fun (b : List Int) => ∀ x ∈ b, 0 ≤ x ∧ x < 256) (toIs bes)) | _ => False, fun xs => match xs with | [.sl _ bes] => (fun (b : List Int) => .bool true) (toIs bes) | _ => .junk, false⟩
theorem gk_laws_FnHighest : ∀ args, sp_laws_FnHighest.pre args → ICall Try.prog 6 args (sp_laws_FnHighest.val args) := by
  intro args h
  unfold sp_laws_FnHighest at h ⊢; simp only at h ⊢; split at h
  · obtain ⟨h0, h1⟩ := h
    obtain ⟨l0, rfl⟩ := isBy_ex h0
    simp only [toBy_enc] at *
    exact c_laws_FnHighest _ h1
  · exact h.elim
theorem en_laws_FnHighest : Enters Try.prog 6 := enters_of Try.func6 (by kernel_rfl) rfl

end Go.Proofs.Ytlgjhojihgmfhaa
