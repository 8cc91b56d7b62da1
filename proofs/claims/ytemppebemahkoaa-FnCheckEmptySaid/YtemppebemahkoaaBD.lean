/- Contracts: drawn half-planes. -/
import Derived.Test.YtemppebemahkoaaB32
import Derived.Test.YtemppebemahkoaaBO
set_option linter.unusedVariables false
set_option linter.unusedSimpArgs false
set_option maxHeartbeats 1600000
set_option maxRecDepth 100000
namespace Go.Proofs.Ytemppebemahkoaa
open Go Go.Ideal Go.Pl Go.Sort

theorem encTs_setD (l : List Tr) (m : Nat) (p : Tr) : (encTs l).set m (.agg [.num .i64 p.1, .num .i64 p.2.1, .num .i64 p.2.2]) = encTs (l.set m p) := by
  show (l.map encT).set m (encT p) = (l.set m p).map encT
  rw [List.map_set]
def offsL : List Int := [0, 1, 5, -5, 20, -20, 2000, -1990]
def rHalf (b : List Int) (p : Nat) : Tr :=
  (if pickI b p 7 - 3 = 0 ∧ pickI b (p + 1) 7 - 3 = 0 then 1 else pickI b p 7 - 3, pickI b (p + 1) 7 - 3, offsL.getD (pickI b (p + 2) 8).toNat 0)
def g_spec_randomHalf : List (Nat × PSpec) := []
theorem gok_spec_randomHalf : GOK Try.prog g_spec_randomHalf := gok0
def h_spec_randomHalf : List (Nat × HSpec) := [(89, hs_spec_reader_pick), (166, hs_spec_reader_one)]
theorem hok_spec_randomHalf : HOK Try.prog h_spec_randomHalf := hok_cons hk_spec_reader_pick en_spec_reader_pick (hok_cons hk_spec_reader_one en_spec_reader_one (hok0))
theorem lh_spec_randomHalf_spec_reader_pick : lkHS h_spec_randomHalf 89 = some hs_spec_reader_pick := rfl
theorem lh_spec_randomHalf_spec_reader_one : lkHS h_spec_randomHalf 166 = some hs_spec_reader_one := rfl
theorem c_spec_randomHalf (b : List Int) (p : Nat) (hb : BytesOK b) (hp : p ≤ 800000) : HCall Try.prog 165 [.ptr 1000 0] (sm ([(1000, rdr b p)])) (encT (rHalf b p)) (sm ([(1000, rdr b (p + 3))])) := by
  refine hcall_V (G := g_spec_randomHalf) (H := h_spec_randomHalf) [] tabOK mixed gok_spec_randomHalf hok_spec_randomHalf Try.func165 rfl Try.ntmps165 Try.results165 rfl (by kernel_rfl) fun F hN hlen => ?_
  simp only [sm]
  have h1 := pick_nonneg hb (show p ≤ 1000000000 by omega) 7
  have h2 := pick_nonneg hb (show p + 1 ≤ 1000000000 by omega) 7
  have h3 := h1.2.1 (by omega)
  have h4 := h2.2.1 (by omega)
  have w1 : IntKind.i64.wrap (pickI b p 7 - 3) = pickI b p 7 - 3 := wr (by omega) (by omega)
  have w2 : IntKind.i64.wrap (pickI b (p + 1) 7 - 3) = pickI b (p + 1) 7 - 3 := wr (by omega) (by omega)
  have p1 : p ≤ 1000000 := by omega
  have p2 : p + 1 ≤ 1000000 := by omega
  have p3 : p + 1 + 1 ≤ 900000 := by omega
  have e8 : encI offsL = [.num .i64 0, .num .i64 1, .num .i64 5, .num .i64 (-5), .num .i64 20, .num .i64 (-20), .num .i64 2000, .num .i64 (-1990)] := rfl
  have hv : rHalf b p = (if pickI b p 7 - 3 = 0 ∧ pickI b (p + 1) 7 - 3 = 0 then 1 else pickI b p 7 - 3, pickI b (p + 1) 7 - 3, offsL.getD (pickI b (p + 2) 8).toNat 0) := rfl
  have ho : offsL = [0, 1, 5, -5, 20, -20, 2000, -1990] := rfl
  rw [ho] at hv
  cases c1 : (pickI b p 7 - 3 == 0) with
  | false =>
    rw [if_neg (by intro h; rw [h.1] at c1; cases c1)] at hv
    simp only [V_seq, V_skip, V_ret, V_region, V_cond, brW_false, W_nil, W_cons, effOp2, KN_seq, KXr_nil, QE, asB, effOp, effPure, effPick, effNew, effAlloc, effBuildSlice, effFrz, frz, tmpsOf, effStore, Option.isSome_some, skipE, pureV, pickV, storeV, binV, partV, loadV, faddrV, over, solid, buildL, IV.cells, ofC, strip, lkT, lkH, ISt.app, opI, gO, gB, allB, gval, wrapG, dstOK, setD, mentTm, mentHp, IV.ment, IV.mentL, partsL, eltsI, eltI, oneI, noId', idsV, idsL, clean, callArgs, callFn, enumT, conv, conv0, convL, IBlk.shape, Op.operands, reduceIte, reduceCtorEq, cond_true, cond_false, Bool.or_false, Bool.or_true, Bool.and_true, Bool.false_and, Nat.reduceAdd, Nat.reduceSub, Nat.reduceMul, Nat.reduceLT, Nat.reduceLeDiff, Nat.reduceEqDiff, Nat.reduceBEq, Nat.add_zero, Nat.zero_add, ne_eq, not_false_eq_true, beq_self_eq_true, true_and, and_true, and_false, and_self, false_implies, implies_true, List.map_cons, List.map_nil, List.nil_append, List.cons_append, List.append_nil, List.all_cons, List.all_nil, Option.map_some, Option.bind_some, List.getElem?_cons_zero, List.getElem?_cons_succ, List.getD_cons_zero, List.getD_cons_succ, List.length_cons, List.length_nil, List.take_succ_cons, List.take_zero, List.take_nil, List.drop_succ_cons, List.drop_zero, List.drop_nil, ex_clo, bft, or_self, Bool.true_eq_false, Bool.false_eq_true, tab3, tab25, tab98, hN, Int.toNat_natCast, encT, isBy_enc, toBy_enc, isIs_nil, toIs_nil, isIs_cons, toIs_cons, FinH, resA, resV, SLe, SLe0, convTm, convHp, convB, sm, effH, mkHC0, mkHC1, lendM, lentM, lentI, allHere, addIds, idsB, flatIds, reach, posn, renV, renL, renB, renH, numB, subHp, fwd, bk, bwd, nones, keyOK, noSl, noSlL, flatBs, List.contains, List.elem, Option.isSome_some, List.nodup_nil, List.nodup_cons, List.not_mem_nil, List.mem_cons, or_false, Option.getD_some, lh_spec_randomHalf_spec_reader_pick, lh_spec_randomHalf_spec_reader_one, hs_spec_reader_pick, hs_spec_reader_one, rdr, hb, w1, w2, p1, p2, p3, c1, hv]
    exact ⟨by omega, by omega, List.take_length.symm, id, by simp [convL, conv, conv0, clean]; omega⟩
  | true =>
    cases c2 : (pickI b (p + 1) 7 - 3 == 0) with
    | false =>
      rw [if_neg (by intro h; rw [h.2] at c2; cases c2)] at hv
      simp only [V_seq, V_skip, V_ret, V_region, V_cond, brW_false, W_nil, W_cons, effOp2, KN_seq, KXr_nil, QE, asB, effOp, effPure, effPick, effNew, effAlloc, effBuildSlice, effFrz, frz, tmpsOf, effStore, Option.isSome_some, skipE, pureV, pickV, storeV, binV, partV, loadV, faddrV, over, solid, buildL, IV.cells, ofC, strip, lkT, lkH, ISt.app, opI, gO, gB, allB, gval, wrapG, dstOK, setD, mentTm, mentHp, IV.ment, IV.mentL, partsL, eltsI, eltI, oneI, noId', idsV, idsL, clean, callArgs, callFn, enumT, conv, conv0, convL, IBlk.shape, Op.operands, reduceIte, reduceCtorEq, cond_true, cond_false, Bool.or_false, Bool.or_true, Bool.and_true, Bool.false_and, Nat.reduceAdd, Nat.reduceSub, Nat.reduceMul, Nat.reduceLT, Nat.reduceLeDiff, Nat.reduceEqDiff, Nat.reduceBEq, Nat.add_zero, Nat.zero_add, ne_eq, not_false_eq_true, beq_self_eq_true, true_and, and_true, and_false, and_self, false_implies, implies_true, List.map_cons, List.map_nil, List.nil_append, List.cons_append, List.append_nil, List.all_cons, List.all_nil, Option.map_some, Option.bind_some, List.getElem?_cons_zero, List.getElem?_cons_succ, List.getD_cons_zero, List.getD_cons_succ, List.length_cons, List.length_nil, List.take_succ_cons, List.take_zero, List.take_nil, List.drop_succ_cons, List.drop_zero, List.drop_nil, ex_clo, or_self, Bool.true_eq_false, Bool.false_eq_true, tab3, tab25, tab98, hN, Int.toNat_natCast, encT, isBy_enc, toBy_enc, isIs_nil, toIs_nil, isIs_cons, toIs_cons, FinH, resA, resV, SLe, SLe0, convTm, convHp, convB, sm, effH, mkHC0, mkHC1, lendM, lentM, lentI, allHere, addIds, idsB, flatIds, reach, posn, renV, renL, renB, renH, numB, subHp, fwd, bk, bwd, nones, keyOK, noSl, noSlL, flatBs, List.contains, List.elem, Option.isSome_some, List.nodup_nil, List.nodup_cons, List.not_mem_nil, List.mem_cons, or_false, Option.getD_some, lh_spec_randomHalf_spec_reader_pick, lh_spec_randomHalf_spec_reader_one, hs_spec_reader_pick, hs_spec_reader_one, rdr, hb, w1, w2, p1, p2, p3, c1, c2, hv]
      exact ⟨by omega, by omega, List.take_length.symm, id, by simp [convL, conv, conv0, clean]; omega⟩
    | true =>
      rw [if_pos ⟨by simpa using c1, by simpa using c2⟩] at hv
      simp only [V_seq, V_ret, V_region, V_cond, brW_true, W_nil, W_cons, effOp2, KN_seq, KXr_nil, QE, asB, effOp, effPure, effPick, effNew, effAlloc, effBuildSlice, effFrz, frz, tmpsOf, effStore, Option.isSome_some, skipE, pureV, pickV, storeV, binV, partV, loadV, faddrV, over, solid, buildL, IV.cells, ofC, strip, lkT, lkH, ISt.app, opI, gO, gB, allB, gval, wrapG, dstOK, setD, mentTm, mentHp, IV.ment, IV.mentL, partsL, eltsI, eltI, oneI, noId', idsV, idsL, clean, callArgs, callFn, enumT, conv, conv0, convL, IBlk.shape, Op.operands, reduceIte, reduceCtorEq, cond_true, cond_false, Bool.or_false, Bool.or_true, Bool.and_true, Bool.false_and, Nat.reduceAdd, Nat.reduceSub, Nat.reduceMul, Nat.reduceLT, Nat.reduceLeDiff, Nat.reduceEqDiff, Nat.reduceBEq, Nat.add_zero, Nat.zero_add, ne_eq, not_false_eq_true, beq_self_eq_true, true_and, and_true, and_false, and_self, false_implies, implies_true, List.map_cons, List.map_nil, List.nil_append, List.cons_append, List.append_nil, List.all_cons, List.all_nil, Option.map_some, Option.bind_some, List.getElem?_cons_zero, List.getElem?_cons_succ, List.getD_cons_zero, List.getD_cons_succ, List.length_cons, List.length_nil, List.take_succ_cons, List.take_zero, List.take_nil, List.drop_succ_cons, List.drop_zero, List.drop_nil, ex_clo, or_self, Bool.true_eq_false, Bool.false_eq_true, tab3, tab25, tab98, hN, Int.toNat_natCast, encT, isBy_enc, toBy_enc, isIs_nil, toIs_nil, isIs_cons, toIs_cons, FinH, resA, resV, SLe, SLe0, convTm, convHp, convB, sm, effH, mkHC0, mkHC1, lendM, lentM, lentI, allHere, addIds, idsB, flatIds, reach, posn, renV, renL, renB, renH, numB, subHp, fwd, bk, bwd, nones, keyOK, noSl, noSlL, flatBs, List.contains, List.elem, Option.isSome_some, List.nodup_nil, List.nodup_cons, List.not_mem_nil, List.mem_cons, or_false, Option.getD_some, lh_spec_randomHalf_spec_reader_pick, lh_spec_randomHalf_spec_reader_one, hs_spec_reader_pick, hs_spec_reader_one, rdr, hb, w1, w2, p1, p2, p3, c1, c2, hv]
      exact ⟨by omega, by omega, List.take_length.symm, id, by simp [convL, conv, conv0, clean]; omega⟩
def hs_spec_randomHalf : HSpec := ⟨[false], fun xs hp => match xs, hp with | [.ptr 1000 0], [(1000, .box ty [.sl 1 es, .num .i64 pz])] => (isBy es) ∧ (ty = 136) ∧ (pz = (pz.toNat : Int)) ∧ ((fun (b : List Int) (p : Nat) => BytesOK b) (toIs es) pz.toNat) ∧ ((fun (b : List Int) (p : Nat) => p ≤ 800000) (toIs es) pz.toNat) | _, _ => False, fun xs hp => match xs, hp with | [.ptr 1000 0], [(1000, .box ty [.sl 1 es, .num .i64 pz])] => (fun (b : List Int) (p : Nat) => (encT (rHalf b p) : IV)) (toIs es) pz.toNat | _, _ => .junk, fun xs hp => match xs, hp with | [.ptr 1000 0], [(1000, .box ty [.sl 1 es, .num .i64 pz])] => (fun (b : List Int) (p : Nat) => ([(1000, rdr b (p + 3))] : List (Nat × IBlk))) (toIs es) pz.toNat | _, _ => []⟩
theorem hk_spec_randomHalf : ∀ args hp, hs_spec_randomHalf.pre args hp → HCall Try.prog 165 args (sm hp) (hs_spec_randomHalf.val args hp) (sm (hs_spec_randomHalf.hval args hp)) := by
  intro args hp h
  unfold hs_spec_randomHalf at h ⊢; simp only at h ⊢; split at h
  · obtain ⟨h1, rfl, h3, h4, h5⟩ := h; obtain ⟨l, rfl⟩ := isBy_ex h1; rw [toBy_enc] at *; rw [h3]; exact c_spec_randomHalf l _ h4 (by simpa using h5)
  · exact h.elim
theorem en_spec_randomHalf : Enters Try.prog 165 := enters_of Try.func165 (by kernel_rfl) rfl

def hLoop (b : List Int) : Nat → Nat → List Tr
  | 0, _ => []
  | n + 1, p => rHalf b p :: hLoop b n (p + 3)
theorem hLoop_len (b : List Int) : ∀ n p, (hLoop b n p).length = n
  | 0, _ => rfl
  | n + 1, p => by simp [hLoop, hLoop_len b n]
theorem hLoop_succ (b : List Int) : ∀ n p, hLoop b (n + 1) p = hLoop b n p ++ [rHalf b (p + 3 * n)]
  | 0, p => by simp [hLoop]
  | n + 1, p => by
    rw [hLoop, hLoop_succ b n (p + 3), hLoop]
    simp [show p + 3 + 3 * n = p + 3 * (n + 1) by omega]
def hNum (b : List Int) (p : Nat) : Nat := (pickI b p 6).toNat
/-- Drawn half-planes; where the reader stands then. -/
def aHalves (b : List Int) (p : Nat) : List Tr × Nat :=
  let L := hLoop b (hNum b p) (p + 1)
  let p1 := p + 1 + 3 * hNum b p
  if L.length = 0 then (L, p1)
  else if pickI b p1 18 = 0 then (L.set 0 (0, 0, 1), p1 + 1)
  else if pickI b p1 18 = 1 then (L.set 0 ((tAt L 0).1, (tAt L 0).2.1, [4000001, -4000001].getD (pickI b (p1 + 1) 2).toNat 0), p1 + 2)
  else if pickI b p1 18 = 2 then (L ++ hLoop b (9 - L.length) (p1 + 1), p1 + 1 + 3 * (9 - L.length))
  else (L, p1 + 1)
def g_spec_anyHalves : List (Nat × PSpec) := []
theorem gok_spec_anyHalves : GOK Try.prog g_spec_anyHalves := gok0
def h_spec_anyHalves : List (Nat × HSpec) := [(89, hs_spec_reader_pick), (165, hs_spec_randomHalf), (166, hs_spec_reader_one)]
theorem hok_spec_anyHalves : HOK Try.prog h_spec_anyHalves := hok_cons hk_spec_reader_pick en_spec_reader_pick (hok_cons hk_spec_randomHalf en_spec_randomHalf (hok_cons hk_spec_reader_one en_spec_reader_one (hok0)))
theorem lh_spec_anyHalves_spec_reader_pick : lkHS h_spec_anyHalves 89 = some hs_spec_reader_pick := rfl
theorem lh_spec_anyHalves_spec_randomHalf : lkHS h_spec_anyHalves 165 = some hs_spec_randomHalf := rfl
theorem lh_spec_anyHalves_spec_reader_one : lkHS h_spec_anyHalves 166 = some hs_spec_reader_one := rfl
theorem c_spec_anyHalves (b : List Int) (p : Nat) (hb : BytesOK b) (hp : p ≤ 700000) : HCall Try.prog 95 [.ptr 1000 0] (sm ([(1000, rdr b p)])) (.ref 0 0 (aHalves b p).1.length true) (sm ([(0, .arr 3 98 (encTs (aHalves b p).1)), (1000, rdr b (aHalves b p).2)])) := by
  refine hcall_V (G := g_spec_anyHalves) (H := h_spec_anyHalves) [] tabOK mixed gok_spec_anyHalves hok_spec_anyHalves Try.func95 rfl Try.ntmps95 Try.results95 rfl (by kernel_rfl) fun F hN hlen => ?_
  simp only [sm]
  have h1 := pick_nonneg hb (show p ≤ 1000000000 by omega) 6
  have h2 := h1.2.1 (by omega)
  have n2 : pickI b p 6 = (hNum b p : Int) := by unfold hNum; omega
  have hL := hLoop_len b (hNum b p) (p + 1)
  obtain ⟨n, hn⟩ : ∃ n, hNum b p = n := ⟨_, rfl⟩
  have hn6 : n < 6 := by omega
  have hA : ∀ L p1, hLoop b n (p + 1) = L → p + 1 + 3 * n = p1 → aHalves b p = if L.length = 0 then (L, p1)
      else if pickI b p1 18 = 0 then (L.set 0 (0, 0, 1), p1 + 1)
      else if pickI b p1 18 = 1 then (L.set 0 ((tAt L 0).1, (tAt L 0).2.1, [4000001, -4000001].getD (pickI b (p1 + 1) 2).toNat 0), p1 + 2)
      else if pickI b p1 18 = 2 then (L ++ hLoop b (9 - L.length) (p1 + 1), p1 + 1 + 3 * (9 - L.length))
      else (L, p1 + 1) := by intro L p1 e1 e2; subst e1 e2; rw [← hn]; rfl
  rw [hn] at n2 hL
  have q1 : p ≤ 1000000 := by omega
  simp only [V_seq, V_block, V_region, W_nil, W_cons, effOp2, KN_seq, effOp, effPure, effNew, effBuildSlice, effFrz, frz, tmpsOf, Option.isSome_some, skipE, pureV, ofC, strip, lkT, lkH, ISt.app, opI, gO, gB, allB, gval, wrapG, dstOK, setD, mentTm, mentHp, IV.ment, IV.mentL, partsL, eltsI, idsV, idsL, clean, callArgs, callFn, enumT, conv, conv0, convL, IBlk.shape, Op.operands, reduceIte, reduceCtorEq, cond_true, cond_false, Bool.or_false, Bool.or_true, Bool.and_true, Nat.reduceAdd, Nat.reduceSub, Nat.reduceMul, Nat.reduceLT, Nat.reduceLeDiff, Nat.reduceEqDiff, Nat.reduceBEq, Nat.zero_add, ne_eq, not_false_eq_true, beq_self_eq_true, true_and, and_true, and_false, and_self, implies_true, List.map_cons, List.map_nil, List.nil_append, List.cons_append, List.append_nil, List.all_nil, Option.map_some, List.getD_cons_zero, List.length_nil, ex_clo, Bool.true_eq_false, Bool.false_eq_true, tab43, tab98, hN, Int.toNat_natCast, isBy_enc, toBy_enc, SLe0, convTm, convHp, convB, sm, effH, mkHC0, mkHC1, lendM, lentM, lentI, allHere, addIds, idsB, flatIds, reach, posn, renV, renL, renB, renH, numB, subHp, fwd, bk, bwd, nones, keyOK, noSl, noSlL, flatBs, List.contains, List.elem, Option.isSome_some, List.nodup_nil, List.nodup_cons, List.not_mem_nil, or_false, Option.getD_some, lh_spec_anyHalves_spec_reader_pick, hs_spec_reader_pick, rdr, hb, q1, n2]
  refine ⟨by omega, ?_⟩
  refine V_loop (α := Nat) ⟨tabOK, mixed, gok_spec_anyHalves, hok_spec_anyHalves⟩ (by kernel_rfl) (fun i => i ≤ n) (fun i => ⟨[(4, .num .i64 ((n - i : Nat) : Int)), (3, .ref 5 0 i true), (0, .ptr 1000 0)], [(5, some (.arr 3 98 (encTs (hLoop b i (p + 1))))), (1000, some (rdr b (p + 1 + 3 * i)))]⟩) (fun i => n - i) 0 id (Nat.zero_le _)
    (by simp [SLe, SLe0, convTm, convHp, convB, conv, conv0, convL, lkT, lkH, clean, hLoop, encTs]) ?_
  intro i hi
  have ln := len_encTs (hLoop b i (p + 1))
  rw [hLoop_len] at ln
  have hx : ∃ k ty es, IBlk.arr 3 98 (encTs (hLoop b i (p + 1))) = IBlk.arr k ty es := ⟨_, _, _, rfl⟩
  simp only [V_seq, V_region, V_cond, W_nil, W_cons, effOp2, KN_seq, asB, effOp, effPure, pureV, binV, ofC, strip, lkT, ISt.app, opI, gO, gB, allB, gval, wrapG, dstOK, setD, Op.operands, reduceIte, reduceCtorEq, Nat.reduceLT, Nat.reduceEqDiff, true_and, and_self, implies_true, List.nil_append, List.cons_append, hN, rdr]
  refine brW_some (fun h => ?_) (fun h => ?_)
  · have hlt : i < n := by simp at h; omega
    have w2 : IntKind.i64.wrap (((n - i : Nat) : Int) - 1) = ((n - (i + 1) : Nat) : Int) := by rw [wr (by omega) (by omega)]; omega
    have hs := hLoop_succ b i (p + 1)
    have hle : p + 1 + 3 * i ≤ 800000 := by omega
    have hen : encTs (hLoop b (i + 1) (p + 1)) = (encTs (hLoop b i (p + 1))).take i ++ [IV.agg [.num .i64 (rHalf b (p + 1 + 3 * i)).1, .num .i64 (rHalf b (p + 1 + 3 * i)).2.1, .num .i64 (rHalf b (p + 1 + 3 * i)).2.2]] := by
      rw [hs, ← encTs_app, List.take_of_length_le (by omega)]; rfl
    have hp3 : p + 1 + 3 * (i + 1) = p + 1 + 3 * i + 3 := by omega
    simp only [V_seq, V_skip, V_block, V_region, W_nil, W_cons, effOp2, KN_seq, KN_block, KN_back, effOp, effPure, effNew, effBuildSlice, effFrz, frz, tmpsOf, effAppend, effZeros, Option.isSome_some, skipE, pureV, srcV, refId, binV, ofC, strip, lkT, lkH, ISt.app, opI, gO, gB, allB, gval, wrapG, dstOK, setD, mentTm, mentHp, IV.ment, IV.mentL, partsL, eltsI, eltI, oneI, noId', idsV, idsL, clean, callArgs, callFn, enumT, conv, conv0, convL, IBlk.shape, Op.operands, reduceIte, reduceCtorEq, cond_true, cond_false, Bool.or_false, Bool.or_true, Bool.and_true, Nat.reduceAdd, Nat.reduceSub, Nat.reduceMul, Nat.reduceLT, Nat.reduceLeDiff, Nat.reduceEqDiff, Nat.reduceBEq, Nat.zero_add, ne_eq, not_false_eq_true, beq_self_eq_true, true_and, and_true, and_false, and_self, implies_true, List.map_cons, List.map_nil, List.nil_append, List.cons_append, List.append_nil, List.all_cons, List.all_nil, Option.some.injEq, Option.map_some, List.getD_cons_zero, List.length_cons, List.length_nil, List.take_succ_cons, List.take_nil, List.drop_zero, ex_clo, Bool.true_eq_false, Bool.false_eq_true, tab43, tab98, hN, Int.toNat_natCast, encT, isBy_enc, toBy_enc, SLe0, convTm, convHp, convB, sm, effH, mkHC0, mkHC1, lendM, lentM, lentI, allHere, addIds, idsB, flatIds, reach, posn, renV, renL, renB, renH, numB, subHp, fwd, bk, bwd, nones, keyOK, noSl, noSlL, flatBs, List.contains, List.elem, Option.isSome_some, List.nodup_nil, List.nodup_cons, List.not_mem_nil, or_false, Option.getD_some, lh_spec_anyHalves_spec_randomHalf, hs_spec_randomHalf, rdr, hb, w2, hle, ln]
    repeat refine And.intro (by first | omega | (simp; done) | (simp; omega)) ?_
    refine ⟨i + 1, fun x => if x = 5 then 16 else x, by simp only []; omega, by simp only []; omega, ?_⟩
    simp only [hen, hp3]
    simp [SLe, SLe0, convTm, convHp, convB, conv, conv0, convL, lkT, lkH, clean]
    exact ⟨(List.take_of_length_le (by rw [List.length_append, List.length_take]; exact Nat.le_refl _)).symm, fun id a1 a2 a3 => by omega⟩
  · have hie : i = n := by simp at h; omega
    subst hie
    obtain ⟨L, hLL⟩ : ∃ L, hLoop b i (p + 1) = L := ⟨_, rfl⟩
    obtain ⟨p1, hp1⟩ : ∃ p1, p + 1 + 3 * i = p1 := ⟨_, rfl⟩
    have hB := hA L p1 hLL hp1
    clear hA
    have q0 : Int.toNat 0 = 0 := rfl
    have e2 : ((2 : Nat) : Int) = 2 := rfl
    rw [hLL] at hx ln hL ⊢
    rw [hp1]
    have p1le : p1 ≤ 1000000 := by omega
    have tl := take_encTs L
    rcases Nat.eq_zero_or_pos i with hz | hz
    · subst hz
      rw [if_pos hL] at hB
      have d1 : decide ((0 : Int) < ((0 : Nat) : Int)) = false := rfl
      simp only [V_seq, V_skip, V_ret, V_exit, V_region, V_cond, brW_false, W_nil, W_cons, effOp2, KN_seq, KXr_nil, KXe_nil, KXe_seq, KXe_block, KXe_back, QE, asB, effOp, effPure, Option.isSome_some, pureV, binV, lenV, ofC, strip, lkT, lkH, ISt.app, opI, gO, gB, allB, gval, wrapG, dstOK, setD, conv, conv0, Op.operands, Call.operands, List.append_toArray, reduceIte, reduceCtorEq, Nat.reduceSub, Nat.reduceLT, Nat.reduceEqDiff, ne_eq, not_false_eq_true, true_and, and_true, and_self, false_implies, implies_true, List.map_cons, List.map_nil, List.nil_append, List.cons_append, tab43, hN, FinH, resA, resV, SLe, SLe0, convTm, convHp, convB, Option.isSome_some, List.nodup_nil, List.nodup_cons, List.not_mem_nil, List.mem_cons, or_false, d1, hB, hL]
      exact ⟨fun x => if x = 0 then 5 else x, by simp [convL, conv, conv0, clean]; omega⟩
    · have d1 : decide ((0 : Int) < ((i : Nat) : Int)) = true := by simpa using hz
      rw [if_neg (by omega)] at hB
      have pk := pick_nonneg hb (show p1 ≤ 1000000000 by omega) 18
      by_cases c0 : pickI b p1 18 = 0
      · have d2 : (pickI b p1 18 == 0) = true := by simpa using c0
        rw [if_pos c0] at hB
        have hset := encTs_setD L 0 (0, 0, 1)
        simp only [V_seq, V_ret, V_exit, V_block, V_region, V_cond, brW_true, W_nil, W_cons, effOp2, KN_seq, KN_block, KXr_nil, KXe_nil, KXe_seq, KXe_block, KXe_back, QE, asB, effOp, effPure, effStore, Option.isSome_some, skipE, pureV, storeV, binV, iaddrV, lenV, over, solid, buildL, IV.cells, ofC, strip, lkT, lkH, ISt.app, opI, gO, gB, allB, gval, wrapG, dstOK, setD, mentTm, mentHp, IV.ment, IV.mentL, eltI, oneI, noId', idsV, idsL, clean, callArgs, callFn, enumT, conv, conv0, convL, IBlk.shape, Op.operands, Call.operands, List.append_toArray, reduceIte, reduceCtorEq, cond_true, cond_false, Bool.or_false, Bool.or_true, Bool.and_true, Bool.true_and, Nat.reduceAdd, Nat.reduceSub, Nat.reduceMul, Nat.reduceLT, Nat.reduceLeDiff, Nat.reduceEqDiff, Nat.reduceBEq, Nat.add_zero, Nat.zero_add, ne_eq, not_false_eq_true, beq_self_eq_true, true_and, and_true, and_false, and_self, false_implies, implies_true, forall_const, List.map_cons, List.map_nil, List.nil_append, List.cons_append, List.append_nil, List.all_cons, List.all_nil, Option.map_some, List.getD_cons_zero, List.getD_cons_succ, List.length_cons, List.length_nil, List.take_succ_cons, List.take_zero, List.drop_succ_cons, List.drop_nil, ex_clo, Bool.true_eq_false, Bool.false_eq_true, tab43, tab98, hN, Int.toNat_natCast, isBy_enc, toBy_enc, FinH, resA, resV, SLe, SLe0, convTm, convHp, convB, sm, effH, mkHC0, mkHC1, lendM, lentM, lentI, allHere, addIds, idsB, flatIds, reach, posn, renV, renL, renB, renH, numB, subHp, fwd, bk, bwd, nones, keyOK, noSl, noSlL, flatBs, List.contains, List.elem, Option.isSome_some, List.nodup_nil, List.nodup_cons, List.not_mem_nil, List.mem_cons, or_false, Option.getD_some, lh_spec_anyHalves_spec_reader_pick, hs_spec_reader_pick, rdr, hb, ln, d1, d2, hB, p1le, q0, hset]
        exact ⟨by omega, ⟨by omega, by omega⟩, hz, fun x => if x = 0 then 5 else x, by simp [convL, conv, conv0, clean, hL]; omega⟩
      · have d2 : (pickI b p1 18 == 0) = false := by simpa using c0
        rw [if_neg c0] at hB
        by_cases c1 : pickI b p1 18 = 1
        · have d3 : (pickI b p1 18 == 1) = true := by simpa using c1
          rw [if_pos c1] at hB
          have g0 := getD_encTs (l := L) (i := 0) (by omega)
          have hset := encTs_setD L 0 ((tAt L 0).1, (tAt L 0).2.1, [4000001, -4000001].getD (pickI b (p1 + 1) 2).toNat 0)
          have p2 : p1 + 1 ≤ 900000 := by omega
          simp only [V_seq, V_ret, V_exit, V_block, V_region, V_cond, brW_true, brW_false, W_nil, W_cons, effOp2, KN_seq, KN_block, KXr_nil, KXe_nil, KXe_seq, KXe_block, KXe_back, QE, asB, effOp, effPure, effNew, effBuildSlice, effFrz, frz, tmpsOf, effStore, Option.isSome_some, skipE, pureV, storeV, binV, faddrV, iaddrV, lenV, over, solid, IV.cells, ofC, strip, lkT, lkH, ISt.app, opI, gO, gB, allB, gval, wrapG, dstOK, setD, mentTm, mentHp, IV.ment, IV.mentL, partsL, eltsI, eltI, oneI, noId', idsV, idsL, clean, callArgs, callFn, enumT, conv, conv0, convL, IBlk.shape, Op.operands, Call.operands, List.append_toArray, reduceIte, reduceCtorEq, cond_true, cond_false, Bool.or_false, Bool.or_true, Bool.and_true, Bool.false_and, Nat.reduceAdd, Nat.reduceSub, Nat.reduceMul, Nat.reduceLT, Nat.reduceLeDiff, Nat.reduceEqDiff, Nat.reduceBEq, Nat.add_zero, Nat.zero_add, ne_eq, not_false_eq_true, beq_self_eq_true, true_and, and_true, false_and, and_false, and_self, false_implies, implies_true, forall_const, List.map_cons, List.map_nil, List.nil_append, List.cons_append, List.append_nil, List.all_cons, List.all_nil, Option.some.injEq, Option.map_some, List.getD_cons_zero, List.getD_cons_succ, List.length_cons, List.length_nil, List.take_succ_cons, List.take_zero, List.take_nil, List.drop_succ_cons, List.drop_nil, ex_clo, or_self, Bool.true_eq_false, Bool.false_eq_true, tab3, tab25, tab43, tab98, hN, Int.toNat_natCast, isBy_enc, toBy_enc, isIs_nil, toIs_nil, isIs_cons, toIs_cons, FinH, resA, resV, SLe, SLe0, convTm, convHp, convB, sm, effH, mkHC0, mkHC1, lendM, lentM, lentI, allHere, addIds, idsB, flatIds, reach, posn, renV, renL, renB, renH, numB, subHp, fwd, bk, bwd, nones, keyOK, noSl, noSlL, flatBs, List.contains, List.elem, Option.isSome_some, List.nodup_nil, List.nodup_cons, List.not_mem_nil, List.mem_cons, or_false, Option.getD_some, lh_spec_anyHalves_spec_reader_pick, lh_spec_anyHalves_spec_reader_one, hs_spec_reader_pick, hs_spec_reader_one, rdr, hb, ln, hx, d1, d2, d3, hB, p1le, p2, q0, e2, g0, hset]
          refine ⟨by omega, List.take_length.symm, ⟨by omega, by omega⟩, hz, fun x => if x = 0 then 5 else x, ?_⟩
          simp [convL, conv, conv0, clean, hL]
          exact ⟨by omega, fun id h1 h2 h3 => by omega⟩
        · have d3 : (pickI b p1 18 == 1) = false := by simpa using c1
          rw [if_neg c1] at hB
          by_cases c2 : pickI b p1 18 = 2
          · have d4 : (pickI b p1 18 == 2) = true := by simpa using c2
            rw [if_pos c2] at hB
            simp only [V_seq, V_exit, V_block, V_region, V_cond, brW_true, brW_false, W_nil, W_cons, effOp2, KN_seq, KXe_nil, KXe_seq, KXe_block, KXe_back, QE, asB, effOp, effPure, Option.isSome_some, skipE, pureV, binV, lenV, ofC, strip, lkT, lkH, ISt.app, opI, gO, gB, allB, gval, wrapG, dstOK, setD, mentTm, mentHp, IV.ment, IV.mentL, idsV, idsL, clean, callArgs, callFn, enumT, conv, conv0, convL, IBlk.shape, Op.operands, Call.operands, List.append_toArray, reduceIte, reduceCtorEq, cond_true, cond_false, Bool.or_false, Bool.or_true, Bool.and_true, Nat.reduceAdd, Nat.reduceSub, Nat.reduceMul, Nat.reduceLT, Nat.reduceLeDiff, Nat.reduceEqDiff, Nat.reduceBEq, Nat.zero_add, ne_eq, not_false_eq_true, beq_self_eq_true, true_and, and_true, and_false, and_self, implies_true, List.map_cons, List.map_nil, List.nil_append, List.cons_append, List.append_nil, List.all_nil, Option.map_some, List.getD_cons_zero, ex_clo, Bool.true_eq_false, Bool.false_eq_true, tab43, hN, Int.toNat_natCast, isBy_enc, toBy_enc, FinH, SLe0, convTm, convHp, convB, sm, effH, mkHC0, mkHC1, lendM, lentM, lentI, allHere, addIds, idsB, flatIds, reach, posn, renV, renL, renB, renH, numB, subHp, fwd, bk, bwd, nones, keyOK, noSl, noSlL, flatBs, List.contains, List.elem, Option.isSome_some, List.nodup_nil, List.nodup_cons, List.not_mem_nil, or_false, Option.getD_some, lh_spec_anyHalves_spec_reader_pick, hs_spec_reader_pick, rdr, hb, d1, d2, d3, d4, p1le]
            refine ⟨by omega, ?_⟩
            refine V_loop (α := Nat) ⟨tabOK, mixed, gok_spec_anyHalves, hok_spec_anyHalves⟩ (by kernel_rfl) (fun j => j ≤ 9 - i) (fun j => ⟨[(3, .ref 5 0 (i + j) true), (0, .ptr 1000 0)], [(5, some (.arr 3 98 (encTs (L ++ hLoop b j (p1 + 1))))), (1000, some (rdr b (p1 + 1 + 3 * j)))]⟩) (fun j => 9 - i - j) 0 id (Nat.zero_le _)
              (by simp [SLe, SLe0, convTm, convHp, convB, conv, conv0, convL, lkT, lkH, clean, hLoop]) ?_
            intro j hj
            have ln2 : (encTs (L ++ hLoop b j (p1 + 1))).length = i + j := by rw [len_encTs, List.length_append, hLoop_len, hL]
            have hx2 : ∃ k ty es, IBlk.arr 3 98 (encTs (L ++ hLoop b j (p1 + 1))) = IBlk.arr k ty es := ⟨_, _, _, rfl⟩
            simp only [V_seq, V_region, V_cond, W_nil, W_cons, effOp2, KN_seq, asB, effOp, effPure, pureV, binV, lenV, ofC, strip, lkT, ISt.app, opI, gO, gB, allB, gval, wrapG, dstOK, setD, Op.operands, Call.operands, List.append_toArray, reduceIte, reduceCtorEq, Nat.reduceLT, Nat.reduceEqDiff, ne_eq, not_false_eq_true, true_and, and_self, implies_true, List.nil_append, List.cons_append, tab43, hN, rdr]
            refine brW_some (fun h => ?_) (fun h => ?_)
            · have hlt : i + j < 9 := by simp at h; omega
              have hs := hLoop_succ b j (p1 + 1)
              have hle : p1 + 1 + 3 * j ≤ 800000 := by omega
              have hp3 : p1 + 1 + 3 * (j + 1) = p1 + 1 + 3 * j + 3 := by omega
              have hij : i + (j + 1) = i + j + 1 := by omega
              have hen : encTs (L ++ hLoop b (j + 1) (p1 + 1)) = (encTs (L ++ hLoop b j (p1 + 1))).take (i + j) ++ [IV.agg [.num .i64 (rHalf b (p1 + 1 + 3 * j)).1, .num .i64 (rHalf b (p1 + 1 + 3 * j)).2.1, .num .i64 (rHalf b (p1 + 1 + 3 * j)).2.2]] := by
                rw [hs, ← List.append_assoc, ← encTs_app (L ++ hLoop b j (p1 + 1)), List.take_of_length_le (by omega)]; rfl
              simp only [V_skip, V_block, V_region, W_nil, W_cons, effOp2, KN_seq, KN_block, KN_back, effOp, effPure, effNew, effBuildSlice, effFrz, frz, tmpsOf, effAppend, effZeros, Option.isSome_some, skipE, pureV, srcV, refId, strip, lkT, lkH, ISt.app, opI, gO, gB, allB, gval, wrapG, dstOK, setD, mentTm, mentHp, IV.ment, IV.mentL, partsL, eltsI, eltI, oneI, noId', idsV, idsL, clean, callArgs, callFn, enumT, conv, conv0, convL, IBlk.shape, Op.operands, reduceIte, reduceCtorEq, cond_true, cond_false, Bool.or_false, Bool.or_true, Bool.and_true, Nat.reduceAdd, Nat.reduceSub, Nat.reduceMul, Nat.reduceLT, Nat.reduceLeDiff, Nat.reduceEqDiff, Nat.reduceBEq, Nat.zero_add, ne_eq, not_false_eq_true, beq_self_eq_true, true_and, and_true, and_false, and_self, implies_true, List.map_cons, List.map_nil, List.nil_append, List.cons_append, List.append_nil, List.all_cons, List.all_nil, Option.some.injEq, Option.map_some, List.getD_cons_zero, List.length_cons, List.length_nil, List.take_succ_cons, List.take_nil, List.drop_zero, ex_clo, Bool.true_eq_false, Bool.false_eq_true, tab43, tab98, hN, Int.toNat_natCast, encT, isBy_enc, toBy_enc, SLe0, convTm, convHp, convB, sm, effH, mkHC0, mkHC1, lendM, lentM, lentI, allHere, addIds, idsB, flatIds, reach, posn, renV, renL, renB, renH, numB, subHp, fwd, bk, bwd, nones, keyOK, noSl, noSlL, flatBs, List.contains, List.elem, Option.isSome_some, List.nodup_nil, List.nodup_cons, List.not_mem_nil, or_false, Option.getD_some, lh_spec_anyHalves_spec_randomHalf, hs_spec_randomHalf, rdr, hb, ln2, hle]
              repeat refine And.intro (by first | omega | (simp; done) | (simp; omega)) ?_
              refine ⟨j + 1, fun x => if x = 5 then 44 else x, by simp only []; omega, by simp only []; omega, ?_⟩
              simp only [hen, hp3, hij]
              simp [SLe, SLe0, convTm, convHp, convB, conv, conv0, convL, lkT, lkH, clean]
              exact ⟨(List.take_of_length_le (by rw [List.length_append, List.length_take]; exact Nat.le_refl _)).symm, fun id a1 a2 a3 => by omega⟩
            · have hje : j = 9 - i := by simp at h; omega
              have e9 : (L ++ hLoop b (9 - i) (p1 + 1)).length = i + (9 - i) := by rw [List.length_append, hLoop_len, hL]
              subst hje
              rw [hL] at hB
              simp only [V_seq, V_ret, V_exit, V_region, W_nil, W_cons, effOp2, KN_seq, KN_block, KXr_nil, KXe_nil, KXe_seq, KXe_block, KXe_back, QE, effOp, effPure, Option.isSome_some, pureV, strip, lkT, lkH, ISt.app, opI, gO, gB, allB, gval, wrapG, dstOK, setD, conv, conv0, Op.operands, reduceIte, reduceCtorEq, Nat.reduceLT, Nat.reduceEqDiff, not_false_eq_true, true_and, and_true, and_self, false_implies, implies_true, List.map_cons, List.map_nil, List.nil_append, List.cons_append, hN, FinH, resA, resV, SLe, SLe0, convTm, convHp, convB, Option.isSome_some, List.nodup_nil, List.nodup_cons, List.not_mem_nil, List.mem_cons, or_false, hB, e9]
              exact ⟨fun x => if x = 0 then 5 else x, by simp [convL, conv, conv0, clean]; omega⟩
          · have d4 : (pickI b p1 18 == 2) = false := by simpa using c2
            rw [if_neg c2] at hB
            simp only [V_seq, V_skip, V_ret, V_exit, V_block, V_region, V_cond, brW_true, brW_false, W_nil, W_cons, effOp2, KN_seq, KN_block, KXr_nil, KXe_nil, KXe_seq, KXe_block, KXe_back, QE, asB, effOp, effPure, Option.isSome_some, skipE, pureV, binV, lenV, ofC, strip, lkT, lkH, ISt.app, opI, gO, gB, allB, gval, wrapG, dstOK, setD, mentTm, mentHp, IV.ment, IV.mentL, idsV, idsL, clean, callArgs, callFn, enumT, conv, conv0, convL, IBlk.shape, Op.operands, Call.operands, List.append_toArray, reduceIte, reduceCtorEq, cond_true, cond_false, Bool.or_false, Bool.or_true, Bool.and_true, Nat.reduceAdd, Nat.reduceSub, Nat.reduceMul, Nat.reduceLT, Nat.reduceLeDiff, Nat.reduceEqDiff, Nat.reduceBEq, Nat.zero_add, ne_eq, not_false_eq_true, beq_self_eq_true, true_and, and_true, and_false, and_self, false_implies, implies_true, List.map_cons, List.map_nil, List.nil_append, List.cons_append, List.append_nil, List.all_nil, Option.map_some, List.getD_cons_zero, ex_clo, Bool.true_eq_false, Bool.false_eq_true, tab43, hN, Int.toNat_natCast, isBy_enc, toBy_enc, FinH, resA, resV, SLe, SLe0, convTm, convHp, convB, sm, effH, mkHC0, mkHC1, lendM, lentM, lentI, allHere, addIds, idsB, flatIds, reach, posn, renV, renL, renB, renH, numB, subHp, fwd, bk, bwd, nones, keyOK, noSl, noSlL, flatBs, List.contains, List.elem, Option.isSome_some, List.nodup_nil, List.nodup_cons, List.not_mem_nil, List.mem_cons, or_false, Option.getD_some, lh_spec_anyHalves_spec_reader_pick, hs_spec_reader_pick, rdr, hb, d1, d2, d3, d4, hB, hL, p1le]
            exact ⟨by omega, fun x => if x = 0 then 5 else x, by simp [convL, conv, conv0, clean]; omega⟩
def hs_spec_anyHalves : HSpec := ⟨[false], fun xs hp => match xs, hp with | [.ptr 1000 0], [(1000, .box ty [.sl 1 es, .num .i64 pz])] => (isBy es) ∧ (ty = 136) ∧ (pz = (pz.toNat : Int)) ∧ ((fun (b : List Int) (p : Nat) => BytesOK b) (toIs es) pz.toNat) ∧ ((fun (b : List Int) (p : Nat) => p ≤ 700000) (toIs es) pz.toNat) | _, _ => False, fun xs hp => match xs, hp with | [.ptr 1000 0], [(1000, .box ty [.sl 1 es, .num .i64 pz])] => (fun (b : List Int) (p : Nat) => (.ref 0 0 (aHalves b p).1.length true : IV)) (toIs es) pz.toNat | _, _ => .junk, fun xs hp => match xs, hp with | [.ptr 1000 0], [(1000, .box ty [.sl 1 es, .num .i64 pz])] => (fun (b : List Int) (p : Nat) => ([(0, .arr 3 98 (encTs (aHalves b p).1)), (1000, rdr b (aHalves b p).2)] : List (Nat × IBlk))) (toIs es) pz.toNat | _, _ => []⟩
theorem hk_spec_anyHalves : ∀ args hp, hs_spec_anyHalves.pre args hp → HCall Try.prog 95 args (sm hp) (hs_spec_anyHalves.val args hp) (sm (hs_spec_anyHalves.hval args hp)) := by
  intro args hp h
  unfold hs_spec_anyHalves at h ⊢; simp only at h ⊢; split at h
  · obtain ⟨h1, rfl, h3, h4, h5⟩ := h; obtain ⟨l, rfl⟩ := isBy_ex h1; rw [toBy_enc] at *; rw [h3]; exact c_spec_anyHalves l _ h4 (by simpa using h5)
  · exact h.elim
theorem en_spec_anyHalves : Enters Try.prog 95 := enters_of Try.func95 (by kernel_rfl) rfl


end Go.Proofs.Ytemppebemahkoaa
