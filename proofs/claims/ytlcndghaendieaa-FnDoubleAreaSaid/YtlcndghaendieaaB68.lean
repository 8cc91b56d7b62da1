/- Drawn polygons: spec.someShape. -/
import Derived.Test.YtlcndghaendieaaBL
import Derived.Test.YtlcndghaendieaaBO
import Derived.Test.YtlcndghaendieaaPl30
set_option linter.unusedVariables false
set_option linter.unusedSimpArgs false
set_option maxHeartbeats 1600000
set_option maxRecDepth 100000
namespace Go.Proofs.Ytlcndghaendieaa
open Go Go.Ideal Go.Pl Go.Sort

def shpL : List (List Pt) := [[(0, 0), (4, 0), (4, 4), (0, 4)], [(0, 0), (6, 0), (6, 6), (3, 2), (0, 6)], [(0, 0), (5, 1), (7, 5), (2, 7), (-1, 4)],
  [(0, 0), (2, 0), (2, 3), (4, 3), (4, 0), (6, 0), (6, 5), (0, 5)], [(0, 0), (3, 1), (6, 0), (5, 3), (6, 6), (3, 5), (0, 6), (1, 3)], [(0, 0), (9, 2), (1, 3)]]
def shpF (K D : Int) (q : Pt) : Pt := (K * q.1 + D, K * q.2)
def shpM (b : List Int) (p : Nat) : List Pt := (shpL.getD (pickI b p 6).toNat []).map (shpF (1 + pickI b (p + 2) 3) (pickI b (p + 1) 5 - 2))
def shpR (b : List Int) (p : Nat) : List Pt := if pickI b (p + 3) 2 = 0 then (shpM b p).reverse else shpM b p
/-- A drawn shape. -/
def sShp (b : List Int) (p : Nat) : List Pt := rotP (shpR b p) (pickI b (p + 4) (shpR b p).length).toNat
theorem shp_fact : ∀ k, k < 6 → 3 ≤ (shpL.getD k []).length ∧ (shpL.getD k []).length ≤ 8 ∧ ∀ q ∈ shpL.getD k [], (-1 ≤ q.1 ∧ q.1 ≤ 9) ∧ (-1 ≤ q.2 ∧ q.2 ≤ 9) := by decide
def shpI (K D : Int) (S : List Pt) (i : Nat) : List Pt := (S.take i).map (shpF K D) ++ S.drop i
theorem shpI_len (K D : Int) (S : List Pt) {i : Nat} (h : i ≤ S.length) : (shpI K D S i).length = S.length := by simp [shpI]; omega
theorem shpI_at {K D : Int} {S : List Pt} {i : Nat} (h : i < S.length) : pAt (shpI K D S i) i = pAt S i := by
  simp only [shpI, pAt, List.getD]
  rw [List.getElem?_append_right (by simp; omega)]
  simp [Nat.min_eq_left (Nat.le_of_lt h)]
theorem shpI_set {K D : Int} {S : List Pt} {i : Nat} (h : i < S.length) : (shpI K D S i).set i (shpF K D (pAt S i)) = shpI K D S (i + 1) := by
  have h1 : S.drop i = pAt S i :: S.drop (i + 1) := drop_eq_g (d := (0, 0)) h
  have h2 : S.take (i + 1) = S.take i ++ [pAt S i] := take_succ_g (d := (0, 0)) h
  have h3 : ((S.take i).map (shpF K D)).length = i := by simp; omega
  rw [shpI, shpI, h2, List.set_append_right _ _ (by omega), h3, Nat.sub_self, h1, List.map_append, List.append_assoc]
  rfl
theorem shpI_zero (K D : Int) (S : List Pt) : shpI K D S 0 = S := by simp [shpI]
theorem shpI_all (K D : Int) (S : List Pt) : shpI K D S S.length = S.map (shpF K D) := by simp [shpI]
theorem sShp_len {b : List Int} (hb : BytesOK b) {p : Nat} (hp : p ≤ 1000000) : 3 ≤ (sShp b p).length ∧ (sShp b p).length ≤ 8 := by
  have h1 := pick_nonneg hb (show p ≤ 1000000000 by omega) 6
  have h2 := h1.2.1 (by omega)
  have h3 := shp_fact (pickI b p 6).toNat (by omega)
  have e : (shpR b p).length = (shpL.getD (pickI b p 6).toNat []).length := by
    unfold shpR; split <;> simp [shpM]
  rw [sShp, rot_len, e]
  exact ⟨h3.1, h3.2.1⟩
def g_spec_someShape : List (Nat × PSpec) := [(116, sp_spec_reversed)]
theorem gok_spec_someShape : GOK Try.prog g_spec_someShape := gok_cons gk_spec_reversed en_spec_reversed (gok0)
theorem lk_spec_someShape_spec_reversed : lkG g_spec_someShape 116 = sp_spec_reversed := rfl
def h_spec_someShape : List (Nat × HSpec) := [(79, hs_spec_reader_pick)]
theorem hok_spec_someShape : HOK Try.prog h_spec_someShape := hok_cons hk_spec_reader_pick en_spec_reader_pick (hok0)
theorem lh_spec_someShape_spec_reversed : lkHS h_spec_someShape 116 = none := rfl
theorem lh_spec_someShape_spec_reader_pick : lkHS h_spec_someShape 79 = some hs_spec_reader_pick := rfl
theorem c_spec_someShape (b : List Int) (p : Nat) (hb : BytesOK b) (hp : p ≤ 800000) : HCall Try.prog 78 [.ptr 1000 0] (sm ([(1000, rdr b p)])) (.ref 0 0 (sShp b p).length true) (sm ([(0, .arr 2 28 (encPs (sShp b p))), (1000, rdr b (p + 5))])) := by
  refine hcall_V (G := g_spec_someShape) (H := h_spec_someShape) [(12, [(0, 1), (0, 2), (0, 3), (1, 4), (2, 4), (0, 5), (4, 5), (0, 6), (4, 6), (0, 7), (4, 7), (0, 8), (1, 8), (2, 8), (3, 8), (5, 8), (6, 8)])] tabOK mixed gok_spec_someShape hok_spec_someShape Try.func78 rfl Try.ntmps78 Try.results78 rfl (by kernel_rfl) fun F hN hlen => ?_
  simp only [sm]
  have k1 := pick_nonneg hb (show p ≤ 1000000000 by omega) 6
  have k2 := k1.2.1 (by omega)
  have k3 := pick_nonneg hb (show p + 1 ≤ 1000000000 by omega) 5
  have k4 := k3.2.1 (by omega)
  have k5 := pick_nonneg hb (show p + 2 ≤ 1000000000 by omega) 3
  have k6 := k5.2.1 (by omega)
  have w1 : IntKind.i64.wrap (pickI b (p + 1) 5 - 2) = pickI b (p + 1) 5 - 2 := wr (by omega) (by omega)
  have w2 : IntKind.i64.wrap (1 + pickI b (p + 2) 3) = 1 + pickI b (p + 2) 3 := wr (by omega) (by omega)
  obtain ⟨k, hk⟩ : ∃ k : Nat, pickI b p 6 = k := ⟨(pickI b p 6).toNat, by omega⟩
  have hk6 : k < 6 := by omega
  obtain ⟨f1, f2, f3⟩ := shp_fact k hk6
  have hM : shpM b p = (shpL.getD k []).map (shpF (1 + pickI b (p + 2) 3) (pickI b (p + 1) 5 - 2)) := by rw [shpM, hk]; rfl
  have hlit : [IV.sl 2 (encPs [(0, 0), (4, 0), (4, 4), (0, 4)]), .sl 2 (encPs [(0, 0), (6, 0), (6, 6), (3, 2), (0, 6)]), .sl 2 (encPs [(0, 0), (5, 1), (7, 5), (2, 7), (-1, 4)]),
    .sl 2 (encPs [(0, 0), (2, 0), (2, 3), (4, 3), (4, 0), (6, 0), (6, 5), (0, 5)]), .sl 2 (encPs [(0, 0), (3, 1), (6, 0), (5, 3), (6, 6), (3, 5), (0, 6), (1, 3)]), .sl 2 (encPs [(0, 0), (9, 2), (1, 3)])] = encLs shpL := rfl
  simp only [encPs, encP, List.map_cons, List.map_nil] at hlit
  have gL : (encLs shpL).getD k .junk = .sl 2 (encPs (shpL.getD k [])) := getD_encLs hk6
  have eL : (encLs shpL).length = 6 := rfl
  have e6 : ((6 : Nat) : Int) = 6 := rfl
  have tk : Int.toNat ((k : Nat) : Int) = k := Int.toNat_natCast k
  obtain ⟨S, hS⟩ : ∃ S, shpL.getD k [] = S := ⟨_, rfl⟩
  rw [hS] at f1 f2 f3 hM gL
  have eS := len_encPs S
  have tS := take_encPs S
  have q1 : p ≤ 1000000 := by omega
  simp only [V_seq, V_block, V_region, W_nil, W_cons, effOp2, KN_seq, effOp, effPure, effNew, effBuildSlice, effFrz, frz, tmpsOf, effAppend, effZeros, Option.isSome_some, skipE, pureV, srcV, refId, binV, eltV, loadV, iaddrV, lenV, over, solid, buildL, IV.cells, ofC, strip, lkT, lkH, ISt.app, opI, gO, gB, allB, gval, wrapG, dstOK, setD, mentTm, mentHp, IV.ment, IV.mentL, partsL, eltsI, eltI, oneI, noId', idsV, idsL, clean, callArgs, callFn, enumT, conv, conv0, convL, IBlk.shape, Op.operands, Call.operands, List.append_toArray, reduceIte, reduceCtorEq, cond_true, cond_false, Bool.or_false, Bool.or_true, Bool.and_true, Nat.reduceAdd, Nat.reduceSub, Nat.reduceMul, Nat.reduceLT, Nat.reduceLeDiff, Nat.reduceEqDiff, Nat.reduceBEq, Nat.zero_add, ne_eq, not_false_eq_true, beq_self_eq_true, true_and, and_true, false_and, and_false, and_self, implies_true, forall_const, List.map_cons, List.map_nil, List.nil_append, List.cons_append, List.append_nil, List.all_cons, List.all_nil, Option.map_some, List.getD_cons_zero, List.getD_cons_succ, List.length_cons, List.length_nil, List.take_succ_cons, List.take_zero, List.take_nil, List.drop_succ_cons, List.drop_zero, List.drop_nil, ex_clo, Bool.true_eq_false, Bool.false_eq_true, tab23, tab28, tab104, hN, Int.toNat_natCast, isBy_enc, toBy_enc, SLe0, convTm, convHp, convB, sm, effH, mkHC0, mkHC1, lendM, lentM, lentI, allHere, addIds, idsB, flatIds, reach, posn, renV, renL, renB, renH, numB, subHp, fwd, bk, bwd, nones, keyOK, noSl, noSlL, flatBs, List.contains, List.elem, Option.isSome_some, List.nodup_nil, List.nodup_cons, List.not_mem_nil, or_false, Option.getD_some, lh_spec_someShape_spec_reader_pick, hs_spec_reader_pick, rdr, hb, hlit, gL, eL, e6, hk, tk, eS, w1, w2, q1]
  refine ⟨by simp [encLs, shpL, encPs, encP, eltsI, eltI, noId'], by omega, ⟨by omega, by omega⟩, by omega, by omega, ⟨by omega, by omega⟩, ⟨by omega, by omega⟩, ?_⟩
  obtain ⟨K, hK⟩ : ∃ K, 1 + pickI b (p + 2) 3 = K := ⟨_, rfl⟩
  obtain ⟨D, hDD⟩ : ∃ D, pickI b (p + 1) 5 - 2 = D := ⟨_, rfl⟩
  rw [hK, hDD] at hM
  have hK1 : K = 1 ∨ K = 2 ∨ K = 3 := by omega
  have hD1 : -2 ≤ D ∧ D ≤ 2 := by omega
  simp only [hK, hDD]
  refine V_loop (α := Nat) ⟨tabOK, mixed, gok_spec_someShape, hok_spec_someShape⟩ (by kernel_rfl) (fun i => i ≤ S.length) (fun i => ⟨[(7, .num .i64 i), (6, .num .i64 K), (5, .num .i64 D), (4, .ref 57 0 S.length true), (0, .ptr 1000 0)], [(57, some (.arr 2 28 (encPs (shpI K D S i)))), (1000, some (rdr b (p + 3)))]⟩) (fun i => S.length - i) 0 id (Nat.zero_le _)
    (by simp [SLe, SLe0, convTm, convHp, convB, conv, conv0, convL, lkT, lkH, clean, shpI_zero, rdr]; omega) ?_
  intro i hi
  have ln : (encPs (shpI K D S i)).length = S.length := by rw [len_encPs, shpI_len K D S hi]
  have hx : ∃ k ty es, IBlk.arr 2 28 (encPs (shpI K D S i)) = IBlk.arr k ty es := ⟨_, _, _, rfl⟩
  simp only [V_seq, V_region, V_cond, W_nil, W_cons, effOp2, KN_seq, asB, effOp, effPure, pureV, binV, lenV, strip, lkT, ISt.app, opI, gO, gB, allB, gval, wrapG, dstOK, setD, Op.operands, Call.operands, List.append_toArray, reduceIte, reduceCtorEq, Nat.reduceLT, Nat.reduceEqDiff, ne_eq, not_false_eq_true, true_and, and_self, implies_true, List.nil_append, List.cons_append, tab23, hN, rdr]
  refine brW_some (fun h => ?_) (fun h => ?_)
  · have hi' : i < S.length := by simpa using h
    have hw := wr_succ hi' (by rw [maxLen_eq]; omega)
    have g1 := getD_encPs (l := shpI K D S i) (i := i) (by rw [shpI_len K D S hi]; exact hi')
    rw [shpI_at hi'] at g1
    have hst := shpI_set (K := K) (D := D) hi'
    have hq := f3 (pAt S i) (by rw [pAt, List.getD, List.getElem?_eq_getElem hi']; exact List.getElem_mem hi')
    have hset := encPs_set (shpI K D S i) i (shpF K D (pAt S i))
    rw [hst] at hset
    simp only [shpF] at hset
    generalize pAt S i = q at *
    have b1 : -3 ≤ K * q.1 ∧ K * q.1 ≤ 27 := by rcases hK1 with rfl | rfl | rfl <;> omega
    have b2 : -3 ≤ K * q.2 ∧ K * q.2 ≤ 27 := by rcases hK1 with rfl | rfl | rfl <;> omega
    have w3 : IntKind.i64.wrap (K * q.1) = K * q.1 := wr (by omega) (by omega)
    have w4 : IntKind.i64.wrap (K * q.2) = K * q.2 := wr (by omega) (by omega)
    have w5 : IntKind.i64.wrap (K * q.1 + D) = K * q.1 + D := wr (by omega) (by omega)
    simp only [V_seq, V_skip, V_block, V_region, V_draw, drawW, pairsOf, W_nil, W_cons, WD_nil, WD_cons, effOp2, effOp3, KN_seq, KN_block, KN_back, effOp, effPure, effStore, pureV, storeV, binV, partV, eltV, loadV, faddrV, iaddrV, over, solid, buildL, IV.cells, ofC, strip, lkT, lkH, ISt.app, opI, gO, gB, allB, gval, wrapG, dstOK, setD, eltI, oneI, noId', Op.operands, reduceIte, reduceCtorEq, cond_true, Bool.and_true, Nat.reduceAdd, Nat.reduceLT, Nat.reduceLeDiff, Nat.reduceEqDiff, Nat.add_zero, Nat.zero_add, ne_eq, not_false_eq_true, true_and, and_true, false_and, and_false, and_self, implies_true, forall_const, List.map_cons, List.map_nil, List.nil_append, List.cons_append, List.append_nil, List.all_cons, List.all_nil, Option.some.injEq, List.getD_cons_zero, List.getD_cons_succ, List.length_cons, List.length_nil, List.take_succ_cons, List.take_zero, List.take_nil, List.drop_succ_cons, List.drop_zero, List.drop_nil, tab3, tab23, tab28, hN, Int.toNat_natCast, ln, hx, g1, hw, w3, w4, w5, Nat.zero_add, hset]
    repeat refine And.intro (by omega) ?_
    exact ⟨i + 1, id, by simp only []; omega, by simp only []; omega, by simp [SLe, SLe0, convTm, convHp, convB, conv, conv0, convL, lkT, lkH, clean]⟩
  · have hie : i = S.length := by simp at h; omega
    subst hie
    rw [shpI_all, ← hM] at ln hx ⊢
    have hRl : (shpM b p).length = S.length := by rw [hM, List.length_map]
    obtain ⟨M, hMM⟩ : ∃ M, shpM b p = M := ⟨_, rfl⟩
    rw [hMM] at ln hx hRl ⊢
    have hR : sShp b p = rotP (if pickI b (p + 3) 2 = 0 then M.reverse else M) (pickI b (p + 4) (if pickI b (p + 3) 2 = 0 then M.reverse else M).length).toNat := by rw [sShp, shpR, hMM]
    have q2 : p + 3 ≤ 1000000 := by omega
    have q3 : p + 3 + 1 ≤ 1000000 := by omega
    have pk := pick_nonneg hb (show p + 4 ≤ 1000000000 by omega) M.length
    have pl := pk.2.1 (by omega)
    have q4 : (S.length : Int) ≤ 1000000 := by omega
    by_cases c : pickI b (p + 3) 2 = 0
    · have d : (pickI b (p + 3) 2 == 0) = true := by simpa using c
      rw [if_pos c, List.length_reverse, hRl] at hR
      have tM := take_encPs M
      have hz : M.length ≤ 1000000 := by omega
      have eR : (encPs M.reverse).length = S.length := by rw [len_encPs, List.length_reverse, hRl]
      rw [hRl] at tM pk pl
      obtain ⟨c, hcc⟩ : ∃ c : Nat, pickI b (p + 3 + 1) (S.length : Int) = (c : Int) := ⟨(pickI b (p + 4) S.length).toNat, by rw [show p + 3 + 1 = p + 4 from rfl]; omega⟩
      have hcT : Int.toNat (c : Int) = c := Int.toNat_natCast c
      have hcl : c < S.length := by have := hcc; rw [show p + 3 + 1 = p + 4 from rfl] at this; omega
      have hR2 : sShp b p = rotP M.reverse c := by rw [hR, show pickI b (p + 4) (S.length : Int) = (c : Int) from hcc, hcT]
      have hSl : (sShp b p).length = S.length := by rw [hR2, rot_len]; simpa using hRl
      have hE : encPs (sShp b p) = (encPs M.reverse).drop c ++ (encPs M.reverse).take c := by rw [hR2, rotP, encPs_drop, encPs_take, encPs_app]
      have eD : ((encPs M.reverse).drop c).length = S.length - c := by rw [List.length_drop, eR]
      have eT : ((encPs M.reverse).take c).length = c := by rw [List.length_take, eR]; omega
      have eDT : ((encPs M.reverse).drop c).take (S.length - c) = (encPs M.reverse).drop c := List.take_of_length_le (by omega)
      simp only [V_seq, V_ret, V_exit, V_region, V_draw, V_cond, brW_true, drawW, WS_nil, pairsOf, W_nil, W_cons, effOp2, effOp3, WI_nil, WI_cons, KN_seq, KXr_nil, KXe_nil, KXe_seq, KXe_block, KXe_back, QE, dynOK, indB, farB, seeB, see, isStore, freshB, freshK, freshK1, ownId, heapy, asB, effOp, effPure, effNew, effBuildSlice, effFrz, frz, tmpsOf, effAppend, effZeros, effCall, giveUp, hasAll, Option.isSome_some, skipE, pureV, srcV, refId, binV, sliceV, lenV, ofC, strip, lkT, lkH, ISt.app, opI, gO, gB, allB, gval, wrapG, dstOK, setD, mentTm, mentHp, IV.ment, IV.mentL, partsL, eltsI, lendV, lendP, lent, lentP, idsV, idsL, flat, clean, callArgs, callFn, allLent, enumT, conv, conv0, convL, IBlk.shape, Op.operands, Call.operands, List.append_toArray, Array.append_empty, Option.toArray_none, Option.toArray_some, reduceIte, reduceCtorEq, cond_true, cond_false, Bool.or_false, Bool.or_true, Bool.and_true, Bool.and_false, Bool.and_eq_true, Bool.not_true, Bool.not_false, Nat.reduceAdd, Nat.reduceSub, Nat.reduceMul, Nat.reduceLT, Nat.reduceLeDiff, Nat.reduceEqDiff, Nat.reduceBEq, Nat.zero_add, ne_eq, not_false_eq_true, beq_self_eq_true, true_and, and_true, and_false, and_self, false_implies, implies_true, forall_const, List.map_cons, List.map_nil, List.nil_append, List.cons_append, List.append_nil, List.all_cons, List.all_nil, Option.map_some, Option.map_none, List.getD_cons_zero, List.getD_cons_succ, List.length_nil, List.take_zero, List.take_nil, List.drop_zero, ex_clo, or_true, Bool.true_eq_false, Bool.false_eq_true, tab23, tab28, hN, Int.toNat_natCast, isPs_enc, toPs_enc, isBy_enc, toBy_enc, FinH, resA, resV, SLe, SLe0, convTm, convHp, convB, sm, effH, mkHC0, mkHC1, lendM, lentM, lentI, allHere, addIds, idsB, flatIds, reach, posn, renV, renL, renB, renH, numB, subHp, fwd, bk, bwd, nones, keyOK, noSl, noSlL, flatBs, List.contains, List.elem, Option.isSome_some, List.nodup_nil, List.nodup_cons, List.not_mem_nil, List.mem_cons, or_false, Option.getD_some, lk_spec_someShape_spec_reversed, sp_spec_reversed, lh_spec_someShape_spec_reversed, lh_spec_someShape_spec_reader_pick, hs_spec_reader_pick, rdr, hb, ln, d, q2, q3, q4, tM, hz, eR, hcc, hcT, eD, eT, eDT]
      refine ⟨by omega, Nat.le_refl _, ⟨by omega, by omega⟩, by omega, ⟨by omega, by omega⟩, ⟨by omega, by omega⟩, fun x => if x = 0 then 107 else x, ?_⟩
      simp [convL, conv, conv0, clean, hSl, hE]
      exact ⟨⟨by omega, (List.take_of_length_le (by rw [List.length_append, List.length_drop, List.length_take]; exact Nat.le_refl _)).symm, by omega⟩, fun id h1 _ h3 => by omega⟩
    · have d : (pickI b (p + 3) 2 == 0) = false := by simpa using c
      rw [if_neg c, hRl] at hR
      have tM := take_encPs M
      rw [hRl] at tM pk pl
      obtain ⟨c, hcc⟩ : ∃ c : Nat, pickI b (p + 3 + 1) (S.length : Int) = (c : Int) := ⟨(pickI b (p + 4) S.length).toNat, by rw [show p + 3 + 1 = p + 4 from rfl]; omega⟩
      have hcT : Int.toNat (c : Int) = c := Int.toNat_natCast c
      have hcl : c < S.length := by have := hcc; rw [show p + 3 + 1 = p + 4 from rfl] at this; omega
      have hR2 : sShp b p = rotP M c := by rw [hR, show pickI b (p + 4) (S.length : Int) = (c : Int) from hcc, hcT]
      have hSl : (sShp b p).length = S.length := by rw [hR2, rot_len]; exact hRl
      have hE : encPs (sShp b p) = (encPs M).drop c ++ (encPs M).take c := by rw [hR2, rotP, encPs_drop, encPs_take, encPs_app]
      have eD : ((encPs M).drop c).length = S.length - c := by rw [List.length_drop, ln]
      have eT : ((encPs M).take c).length = c := by rw [List.length_take, ln]; omega
      have eDT : ((encPs M).drop c).take (S.length - c) = (encPs M).drop c := List.take_of_length_le (by omega)
      simp only [V_seq, V_skip, V_ret, V_exit, V_region, V_draw, V_cond, brW_false, drawW, WS_nil, pairsOf, W_nil, W_cons, effOp2, effOp3, WI_nil, WI_cons, KN_seq, KXr_nil, KXe_nil, KXe_seq, KXe_block, KXe_back, QE, dynOK, indB, farB, seeB, see, isStore, freshB, freshK, freshK1, ownId, heapy, asB, effOp, effPure, effNew, effBuildSlice, effFrz, frz, tmpsOf, effAppend, effZeros, Option.isSome_some, skipE, pureV, srcV, refId, binV, sliceV, lenV, ofC, strip, lkT, lkH, ISt.app, opI, gO, gB, allB, gval, wrapG, dstOK, setD, mentTm, mentHp, IV.ment, IV.mentL, partsL, eltsI, idsV, idsL, clean, callArgs, callFn, enumT, conv, conv0, convL, IBlk.shape, Op.operands, Call.operands, List.append_toArray, Array.append_empty, Option.toArray_none, Option.toArray_some, reduceIte, reduceCtorEq, cond_true, cond_false, Bool.or_false, Bool.or_true, Bool.and_true, Bool.and_false, Bool.and_eq_true, Bool.not_false, Nat.reduceAdd, Nat.reduceSub, Nat.reduceMul, Nat.reduceLT, Nat.reduceLeDiff, Nat.reduceEqDiff, Nat.reduceBEq, Nat.zero_add, ne_eq, not_false_eq_true, beq_self_eq_true, true_and, and_true, and_false, and_self, false_implies, implies_true, forall_const, List.map_cons, List.map_nil, List.nil_append, List.cons_append, List.append_nil, List.all_cons, List.all_nil, Option.some.injEq, Option.map_some, Option.map_none, List.getD_cons_zero, List.getD_cons_succ, List.length_nil, List.take_zero, List.take_nil, List.drop_zero, ex_clo, Bool.true_eq_false, Bool.false_eq_true, tab23, tab28, hN, Int.toNat_natCast, isBy_enc, toBy_enc, FinH, resA, resV, SLe, SLe0, convTm, convHp, convB, sm, effH, mkHC0, mkHC1, lendM, lentM, lentI, allHere, addIds, idsB, flatIds, reach, posn, renV, renL, renB, renH, numB, subHp, fwd, bk, bwd, nones, keyOK, noSl, noSlL, flatBs, List.contains, List.elem, Option.isSome_some, List.nodup_nil, List.nodup_cons, List.not_mem_nil, List.mem_cons, or_false, Option.getD_some, lh_spec_someShape_spec_reader_pick, hs_spec_reader_pick, rdr, hb, ln, d, q2, q3, q4, hcc, hcT, eD, eT, eDT]
      refine ⟨by omega, ⟨by omega, by omega⟩, by omega, ⟨by omega, by omega⟩, ⟨by omega, by omega⟩, fun x => if x = 0 then 107 else x, ?_⟩
      simp [convL, conv, conv0, clean, hSl, hE]
      exact ⟨⟨by omega, (List.take_of_length_le (by rw [List.length_append, List.length_drop, List.length_take]; exact Nat.le_refl _)).symm, by omega⟩, fun id h1 _ h3 => by omega⟩
def hs_spec_someShape : HSpec := ⟨[false], fun xs hp => match xs, hp with | [.ptr 1000 0], [(1000, .box ty [.sl 1 es, .num .i64 pz])] => (isBy es) ∧ (ty = 86) ∧ (pz = (pz.toNat : Int)) ∧ ((fun (b : List Int) (p : Nat) => BytesOK b) (toIs es) pz.toNat) ∧ ((fun (b : List Int) (p : Nat) => p ≤ 800000) (toIs es) pz.toNat) | _, _ => False, fun xs hp => match xs, hp with | [.ptr 1000 0], [(1000, .box ty [.sl 1 es, .num .i64 pz])] => (fun (b : List Int) (p : Nat) => (.ref 0 0 (sShp b p).length true : IV)) (toIs es) pz.toNat | _, _ => .junk, fun xs hp => match xs, hp with | [.ptr 1000 0], [(1000, .box ty [.sl 1 es, .num .i64 pz])] => (fun (b : List Int) (p : Nat) => ([(0, .arr 2 28 (encPs (sShp b p))), (1000, rdr b (p + 5))] : List (Nat × IBlk))) (toIs es) pz.toNat | _, _ => []⟩
theorem hk_spec_someShape : ∀ args hp, hs_spec_someShape.pre args hp → HCall Try.prog 78 args (sm hp) (hs_spec_someShape.val args hp) (sm (hs_spec_someShape.hval args hp)) := by
  intro args hp h
  unfold hs_spec_someShape at h ⊢; simp only at h ⊢; split at h
  · obtain ⟨h1, rfl, h3, h4, h5⟩ := h; obtain ⟨l, rfl⟩ := isBy_ex h1; rw [toBy_enc] at *; rw [h3]; exact c_spec_someShape l _ h4 (by simpa using h5)
  · exact h.elim
theorem en_spec_someShape : Enters Try.prog 78 := enters_of Try.func78 (by kernel_rfl) rfl

end Go.Proofs.Ytlcndghaendieaa
