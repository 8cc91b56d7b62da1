/- All subsets of at most three indices, in order: spec.subsets. -/
import Derived.Test.YtemppebemahkoaaBU
import Derived.Test.YtemppebemahkoaaPl33
set_option linter.unusedVariables false
set_option linter.unusedSimpArgs false
set_option maxHeartbeats 16000000
set_option maxRecDepth 100000
namespace Go.Proofs.Ytemppebemahkoaa
open Go Go.Ideal Go.Pl Go.Sort

/-! lists of indices -/
def encN (L : List Nat) : List IV := encI (L.map fun n => ((n : Nat) : Int))
def toNs (es : List IV) : List Nat := (toIs es).map Int.toNat
def isNs (es : List IV) : Prop := ∃ L, es = encN L
theorem isNs_enc (L : List Nat) : isNs (encN L) = True := by simp [isNs]; exact ⟨L, rfl⟩
theorem toNs_enc (L : List Nat) : toNs (encN L) = L := by
  rw [toNs, encN, toIs_enc, List.map_map]
  have : (Int.toNat ∘ fun n => ((n : Nat) : Int)) = id := by funext n; simp
  rw [this, List.map_id]
theorem len_encN (L : List Nat) : (encN L).length = L.length := by rw [encN, len_encI, List.length_map]
abbrev nAt (L : List Nat) (i : Nat) : Nat := L.getD i 0
theorem getD_encN {L : List Nat} {i : Nat} (h : i < L.length) : (encN L).getD i .junk = .num .i64 ((nAt L i : Nat) : Int) := by
  rw [encN, getD_encI (by simpa using h)]
  simp [nAt, List.getD, h]
theorem encN_app (L M : List Nat) : encN L ++ encN M = encN (L ++ M) := by rw [encN, encN, encN, encI_app, List.map_append]
theorem encN_one (n : Nat) : [IV.num .i64 ((n : Nat) : Int)] = encN [n] := rfl
theorem encN_nil : encN [] = [] := rfl
theorem encN_take (L : List Nat) (k : Nat) : (encN L).take k = encN (L.take k) := by rw [encN, encI_take, encN, List.map_take]
theorem encN_drop (L : List Nat) (k : Nat) : (encN L).drop k = encN (L.drop k) := by rw [encN, encI_drop, encN, List.map_drop]
theorem take_encN (L : List Nat) : (encN L).take L.length = encN L := List.take_of_length_le (by rw [len_encN]; exact Nat.le_refl _)

theorem noSl_encN : ∀ M : List Nat, noSlL (encN M) = true
  | [] => rfl
  | x :: M => noSl_encN M
def natI (w : List Nat) : List Int := w.map fun n => ((n : Nat) : Int)
theorem encN_natI (w : List Nat) : encN w = encI (natI w) := rfl
def encLL (W : List (List Nat)) : List IV := W.map fun w => .sl 1 (encN w)
theorem len_encLL (W : List (List Nat)) : (encLL W).length = W.length := List.length_map ..
theorem encLL_app (V W : List (List Nat)) : encLL V ++ encLL W = encLL (V ++ W) := by simp [encLL]
theorem getD_encLL {W : List (List Nat)} {i : Nat} (h : i < W.length) : (encLL W).getD i .junk = .sl 1 (encN (W.getD i [])) := by simp [encLL, List.getD, h]
theorem take_encLL (W : List (List Nat)) : (encLL W).take W.length = encLL W := List.take_of_length_le (by rw [len_encLL]; exact Nat.le_refl _)
/-- The first m families of what may be added. -/
def extP (n d : Nat) (cur : List Nat) (a m : Nat) : List (List Nat) := (List.range m).flatMap fun j => exts n d (cur ++ [a + j]) (a + j + 1)
theorem extP_zero (n d : Nat) (cur : List Nat) (a : Nat) : extP n d cur a 0 = [] := rfl
theorem extP_succ (n d : Nat) (cur : List Nat) (a m : Nat) : extP n d cur a (m + 1) = extP n d cur a m ++ exts n d (cur ++ [a + m]) (a + m + 1) := by
  rw [extP, List.range_succ, List.flatMap_append]; simp [extP]
theorem exts_extP (n d : Nat) (cur : List Nat) (a : Nat) : exts n (d + 1) cur a = extP n d cur a (n - a) := rfl
theorem ext0_len (n : Nat) (cur : List Nat) (a m : Nat) : (extP n 0 cur a m).length = m := by
  induction m with
  | zero => rfl
  | succ m ih => rw [extP_succ, List.length_append, ih]; rfl
theorem ext1_len {n : Nat} (hn : n ≤ 100) (cur : List Nat) (a m : Nat) : (extP n 1 cur a m).length ≤ 100 * m := by
  induction m with
  | zero => exact Nat.le_refl _
  | succ m ih => rw [extP_succ, List.length_append, exts_extP, ext0_len]; omega
theorem ext2_len {n : Nat} (hn : n ≤ 100) (cur : List Nat) (a m : Nat) : (extP n 2 cur a m).length ≤ 10000 * m := by
  induction m with
  | zero => exact Nat.le_refl _
  | succ m ih =>
    have := ext1_len hn (cur ++ [a + m]) (a + m + 1) (n - (a + m + 1))
    rw [extP_succ, List.length_append, exts_extP]; omega

def g_spec_subsets : List (Nat × PSpec) := []
theorem gok_spec_subsets : GOK Try.prog g_spec_subsets := gok0
def h_spec_subsets : List (Nat × HSpec) := []
theorem hok_spec_subsets : HOK Try.prog h_spec_subsets := hok0
theorem c_spec_subsets (nn : Int) (hnn : 0 ≤ nn ∧ nn ≤ 100) : ICall Try.prog 82 [.num .i64 nn] (.sl 1 (encLL (subs nn.toNat))) := by
  refine icall_V (G := g_spec_subsets) (H := []) [] tabOK mixed gok_spec_subsets hok_spec_subsets Try.func82 rfl Try.ntmps82 Try.results82 rfl (by kernel_rfl) fun F hN hlen => ?_
  obtain ⟨n, rfl⟩ : ∃ n : Nat, nn = n := ⟨nn.toNat, by omega⟩
  simp only [Int.toNat_natCast]
  simp only [V_seq, V_block, V_region, W_nil, W_cons, effOp2, KN_seq, effOp, effPure, effNew, effBuildSlice, effFrz, frz, tmpsOf, skipE, pureV, ofC, strip, lkT, ISt.app, opI, gO, gB, allB, gval, wrapG, dstOK, setD, mentTm, mentHp, IV.ment, partsL, eltsI, enumT, Op.operands, reduceIte, reduceCtorEq, cond_true, Bool.or_false, Nat.reduceMul, Nat.reduceLT, Nat.reduceLeDiff, Nat.reduceEqDiff, Nat.reduceBEq, ne_eq, not_false_eq_true, true_and, and_self, implies_true, List.nil_append, List.cons_append, List.append_nil, List.length_nil, tab25, tab94, hN]
  refine V_loop (α := Nat) ⟨tabOK, mixed, gok_spec_subsets, hok_spec_subsets⟩ (by kernel_rfl) (fun i => i ≤ n) (fun i => ⟨[(6, .num .i64 i), (3, .ref 9 0 (extP n 0 [] 0 i).length true), (4, .ref 10 0 (extP n 1 [] 0 i).length true), (5, .ref 11 0 (extP n 2 [] 0 i).length true), (0, .num .i64 n)], [(9, some (.arr 1 25 (encLL (extP n 0 [] 0 i)))), (10, some (.arr 1 25 (encLL (extP n 1 [] 0 i)))), (11, some (.arr 1 25 (encLL (extP n 2 [] 0 i))))]⟩) (fun i => n - i) 0 id (Nat.zero_le _) (by simp [SLe, SLe0, convTm, convHp, convB, conv, conv0, lkT, lkH, clean, extP_zero, encLL]) ?_
  intro i hi
  have o1 := ext0_len n [] 0 i
  have o2 := ext1_len (show n ≤ 100 by omega) [] 0 i
  have o3 := ext2_len (show n ≤ 100 by omega) [] 0 i
  simp only [V_seq, V_region, V_cond, W_nil, W_cons, effOp2, KN_seq, asB, effOp, effPure, pureV, binV, strip, lkT, ISt.app, opI, gO, gB, allB, gval, wrapG, dstOK, setD, Op.operands, reduceIte, reduceCtorEq, Nat.reduceLT, Nat.reduceEqDiff, true_and, and_self, implies_true, List.nil_append, List.cons_append, hN]
  refine brW_some (fun h => ?_) (fun h => ?_)
  · have hi' : i < n := by simpa using h
    have hw := wr_succ hi' (by rw [maxLen_eq]; omega)
    obtain ⟨W, hW⟩ : ∃ W, extP n 0 [] 0 i = W := ⟨_, rfl⟩
    have hW1 : extP n 0 [] 0 (i + 1) = W ++ [[i]] := by rw [extP_succ, hW]; simp [exts]
    rw [hW] at o1
    have eW := len_encLL W
    have tW : (encLL W).take W.length = encLL W := take_encLL W
    have aW : encLL W ++ [.sl 1 [.num .i64 ((i : Nat) : Int)]] = encLL (W ++ [[i]]) := encLL_app W [[i]]
    simp only [hW]
    simp only [V_seq, V_skip, V_block, V_region, W_nil, W_cons, effOp2, KN_seq, effOp, effPure, effNew, effBuildSlice, effFrz, frz, tmpsOf, effAppend, effZeros, skipE, pureV, srcV, refId, binV, ofC, strip, lkT, lkH, ISt.app, opI, gO, gB, allB, gval, wrapG, dstOK, setD, mentTm, mentHp, IV.ment, partsL, eltsI, eltI, noId', Op.operands, reduceIte, reduceCtorEq, cond_true, Bool.or_false, Nat.reduceMul, Nat.reduceLT, Nat.reduceLeDiff, Nat.reduceEqDiff, Nat.reduceBEq, Nat.zero_add, ne_eq, not_false_eq_true, true_and, and_true, and_self, implies_true, List.nil_append, List.cons_append, List.append_nil, Option.some.injEq, List.length_cons, List.length_nil, List.take_succ_cons, List.take_nil, List.drop_zero, tab3, tab25, tab94, hN, eW, tW, aW, hw]
    refine ⟨⟨by omega, by omega⟩, ?_⟩
    obtain ⟨V2, hV2⟩ : ∃ V2, extP n 1 [] 0 i = V2 := ⟨_, rfl⟩
    obtain ⟨V3, hV3⟩ : ∃ V3, extP n 2 [] 0 i = V3 := ⟨_, rfl⟩
    rw [hV2] at o2
    rw [hV3] at o3
    simp only [hV2, hV3]
    refine V_loop (α := Nat) ⟨tabOK, mixed, gok_spec_subsets, hok_spec_subsets⟩ (by kernel_rfl) (fun j => i + 1 + j ≤ n) (fun j => ⟨[(7, .num .i64 ((i + 1 + j : Nat) : Int)), (6, .num .i64 i), (3, .ref 21 0 (W.length + 1) true), (4, .ref 10 0 (V2 ++ extP n 0 [i] (i + 1) j).length true), (5, .ref 11 0 (V3 ++ extP n 1 [i] (i + 1) j).length true), (0, .num .i64 n)], [(21, some (.arr 1 25 (encLL (W ++ [[i]])))), (10, some (.arr 1 25 (encLL (V2 ++ extP n 0 [i] (i + 1) j)))), (11, some (.arr 1 25 (encLL (V3 ++ extP n 1 [i] (i + 1) j))))]⟩) (fun j => n - j) 0 id (by omega) (by simp [SLe, SLe0, convTm, convHp, convB, conv, conv0, lkT, lkH, clean, extP_zero]) ?_
    intro j hj
    have p1 := ext0_len n [i] (i + 1) j
    have p2 := ext1_len (show n ≤ 100 by omega) [i] (i + 1) j
    simp only [V_seq, V_region, V_cond, W_nil, W_cons, effOp2, KN_seq, asB, effOp, effPure, pureV, binV, strip, lkT, ISt.app, opI, gO, gB, allB, gval, wrapG, dstOK, setD, Op.operands, reduceIte, reduceCtorEq, Nat.reduceLT, Nat.reduceEqDiff, true_and, and_self, implies_true, List.nil_append, List.cons_append, hN]
    refine brW_some (fun h2 => ?_) (fun h2 => ?_)
    · have hj' : i + 1 + j < n := by have := of_decide_eq_true h2; omega
      obtain ⟨Y, hY⟩ : ∃ Y, V2 ++ extP n 0 [i] (i + 1) j = Y := ⟨_, rfl⟩
      obtain ⟨Z, hZ⟩ : ∃ Z, V3 ++ extP n 1 [i] (i + 1) j = Z := ⟨_, rfl⟩
      have hY1 : V2 ++ extP n 0 [i] (i + 1) (j + 1) = Y ++ [[i, i + 1 + j]] := by rw [extP_succ, ← List.append_assoc, hY]; rfl
      have hZ1 : V3 ++ extP n 1 [i] (i + 1) (j + 1) = Z ++ extP n 0 [i, i + 1 + j] (i + 1 + j + 1) (n - (i + 1 + j + 1)) := by rw [extP_succ, ← List.append_assoc, hZ]; rfl
      have lY : Y.length = V2.length + j := by rw [← hY, List.length_append, p1]
      have lZ : Z.length ≤ V3.length + 100 * j := by rw [← hZ, List.length_append]; omega
      have eY := len_encLL Y
      have tY : (encLL Y).take Y.length = encLL Y := take_encLL Y
      have aY : encLL Y ++ [.sl 1 [.num .i64 ((i : Nat) : Int), .num .i64 ((i + 1 + j : Nat) : Int)]] = encLL (Y ++ [[i, i + 1 + j]]) := encLL_app Y [[i, i + 1 + j]]
      have hw2 : IntKind.i64.wrap (((i + 1 + j : Nat) : Int) + 1) = ((i + 1 + j + 1 : Nat) : Int) := by rw [wr (by omega) (by omega)]; omega
      have zz : ((i + 1 + j + 1 + 0 : Nat) : Int) = ((i + 1 + j + 1 : Nat) : Int) := rfl
      simp only [hY, hZ]
      simp only [V_seq, V_skip, V_block, V_region, W_nil, W_cons, effOp2, KN_seq, effOp, effPure, effNew, effBuildSlice, effFrz, frz, tmpsOf, effAppend, effZeros, skipE, pureV, srcV, refId, binV, ofC, strip, lkT, lkH, ISt.app, opI, gO, gB, allB, gval, wrapG, dstOK, setD, mentTm, mentHp, IV.ment, partsL, eltsI, eltI, noId', Op.operands, reduceIte, reduceCtorEq, cond_true, Bool.or_false, Nat.reduceAdd, Nat.reduceMul, Nat.reduceLT, Nat.reduceLeDiff, Nat.reduceEqDiff, Nat.reduceBEq, Nat.zero_add, ne_eq, not_false_eq_true, true_and, and_true, and_self, implies_true, List.nil_append, List.cons_append, List.append_nil, Option.some.injEq, List.length_cons, List.length_nil, List.take_succ_cons, List.take_nil, List.drop_zero, tab3, tab25, tab94, hN, eY, tY, aY, hw2]
      refine ⟨⟨by omega, by omega⟩, ?_⟩
      refine V_loop (α := Nat) ⟨tabOK, mixed, gok_spec_subsets, hok_spec_subsets⟩ (by kernel_rfl) (fun q => i + 1 + j + 1 + q ≤ n) (fun q => ⟨[(8, .num .i64 ((i + 1 + j + 1 + q : Nat) : Int)), (7, .num .i64 ((i + 1 + j : Nat) : Int)), (6, .num .i64 i), (3, .ref 21 0 (W.length + 1) true), (4, .ref 34 0 (Y.length + 1) true), (5, .ref 11 0 (Z ++ extP n 0 [i, i + 1 + j] (i + 1 + j + 1) q).length true), (0, .num .i64 n)], [(21, some (.arr 1 25 (encLL (W ++ [[i]])))), (34, some (.arr 1 25 (encLL (Y ++ [[i, i + 1 + j]])))), (11, some (.arr 1 25 (encLL (Z ++ extP n 0 [i, i + 1 + j] (i + 1 + j + 1) q))))]⟩) (fun q => n - q) 0 id (by omega) (by simp [SLe, SLe0, convTm, convHp, convB, conv, conv0, lkT, lkH, clean, extP_zero]) ?_
      intro q hq
      have r1 := ext0_len n [i, i + 1 + j] (i + 1 + j + 1) q
      simp only [V_seq, V_region, V_cond, W_nil, W_cons, effOp2, KN_seq, asB, effOp, effPure, pureV, binV, strip, lkT, ISt.app, opI, gO, gB, allB, gval, wrapG, dstOK, setD, Op.operands, reduceIte, reduceCtorEq, Nat.reduceLT, Nat.reduceEqDiff, true_and, and_self, implies_true, List.nil_append, List.cons_append, hN]
      refine brW_some (fun h3 => ?_) (fun h3 => ?_)
      · have hq' : i + 1 + j + 1 + q < n := by have := of_decide_eq_true h3; omega
        obtain ⟨X, hX⟩ : ∃ X, Z ++ extP n 0 [i, i + 1 + j] (i + 1 + j + 1) q = X := ⟨_, rfl⟩
        have hX1 : Z ++ extP n 0 [i, i + 1 + j] (i + 1 + j + 1) (q + 1) = X ++ [[i, i + 1 + j, i + 1 + j + 1 + q]] := by rw [extP_succ, ← List.append_assoc, hX]; rfl
        have lX : X.length = Z.length + q := by rw [← hX, List.length_append, r1]
        have eX := len_encLL X
        have tX : (encLL X).take X.length = encLL X := take_encLL X
        have aX : encLL X ++ [.sl 1 [.num .i64 ((i : Nat) : Int), .num .i64 ((i + 1 + j : Nat) : Int), .num .i64 ((i + 1 + j + 1 + q : Nat) : Int)]] = encLL (X ++ [[i, i + 1 + j, i + 1 + j + 1 + q]]) := encLL_app X [[i, i + 1 + j, i + 1 + j + 1 + q]]
        have hw3 : IntKind.i64.wrap (((i + 1 + j + 1 + q : Nat) : Int) + 1) = ((i + 1 + j + 1 + q + 1 : Nat) : Int) := by rw [wr (by omega) (by omega)]; omega
        simp only [hX]
        simp only [V_seq, V_skip, V_block, V_region, W_nil, W_cons, effOp2, KN_seq, KN_block, KN_back, effOp, effPure, effNew, effBuildSlice, effFrz, frz, tmpsOf, effAppend, effZeros, skipE, pureV, srcV, refId, binV, ofC, strip, lkT, lkH, ISt.app, opI, gO, gB, allB, gval, wrapG, dstOK, setD, mentTm, mentHp, IV.ment, partsL, eltsI, eltI, noId', Op.operands, reduceIte, reduceCtorEq, cond_true, Bool.or_false, Nat.reduceAdd, Nat.reduceMul, Nat.reduceLT, Nat.reduceLeDiff, Nat.reduceEqDiff, Nat.reduceBEq, Nat.zero_add, ne_eq, not_false_eq_true, true_and, and_true, and_self, implies_true, List.nil_append, List.cons_append, List.append_nil, Option.some.injEq, List.length_cons, List.length_nil, List.take_succ_cons, List.take_nil, List.drop_zero, tab3, tab25, tab94, hN, eX, tX, aX, hw3]
        refine ⟨⟨by omega, by omega⟩, q + 1, fun z => if z = 11 then 48 else z, by simp only []; omega, by simp only []; omega, ?_⟩
        simp only [hX1, List.length_append, List.length_singleton, ← Nat.add_assoc]
        simp [SLe, SLe0, convTm, convHp, convB, conv, conv0, lkT, lkH, clean]
        intro id h1 _ h3; omega
      · have hqe : i + 1 + j + 1 + q = n := by simp at h3; omega
        have hq2 : q = n - (i + 1 + j + 1) := by omega
        rw [hq2, ← hZ1] at *
        simp only [V_seq, V_ret, V_exit, V_region, W_nil, W_cons, effOp2, KN_seq, KN_block, KN_back, KXr_nil, KXe_nil, KXe_seq, KXe_block, KXe_back, QE, effOp, effPure, effAppend, effZeros, skipE, pureV, srcV, refId, binV, ofC, strip, lkT, lkH, ISt.app, opI, gO, gB, allB, gval, wrapG, dstOK, setD, mentTm, mentHp, IV.ment, Gives, Ideal.Fin, conv, conv0, Op.operands, reduceIte, reduceCtorEq, cond_true, Bool.or_false, Nat.reduceLT, Nat.reduceEqDiff, Nat.reduceBEq, Nat.zero_add, ne_eq, not_false_eq_true, true_and, and_true, and_self, implies_true, List.nil_append, List.cons_append, Option.some.injEq, List.drop_zero, tab25, tab94, hN, hw2]
        refine ⟨j + 1, fun z => if z = 10 then 34 else z, by simp only []; omega, by simp only []; omega, ?_⟩
        simp only [hY1, List.length_append, List.length_singleton, ← Nat.add_assoc]
        simp [SLe, SLe0, convTm, convHp, convB, conv, conv0, lkT, lkH, clean]
        intro id h1 _ h3; omega
    · have hje : i + 1 + j = n := by simp at h2; omega
      have hj2 : j = n - (i + 1) := by omega
      have f2 : V2 ++ extP n 0 [i] (i + 1) j = extP n 1 [] 0 (i + 1) := by rw [extP_succ, hV2, hj2, Nat.zero_add]; rfl
      have f3 : V3 ++ extP n 1 [i] (i + 1) j = extP n 2 [] 0 (i + 1) := by rw [extP_succ, hV3, hj2, Nat.zero_add]; rfl
      simp only [f2, f3]
      simp only [V_seq, V_ret, V_exit, V_region, W_nil, W_cons, effOp2, KN_seq, KN_block, KN_back, KXr_nil, KXe_nil, KXe_seq, KXe_block, KXe_back, QE, effOp, effPure, effAppend, effZeros, skipE, pureV, srcV, refId, binV, ofC, strip, lkT, lkH, ISt.app, opI, gO, gB, allB, gval, wrapG, dstOK, setD, mentTm, mentHp, IV.ment, Gives, Ideal.Fin, conv, conv0, Op.operands, reduceIte, reduceCtorEq, cond_true, Bool.or_false, Nat.reduceLT, Nat.reduceEqDiff, Nat.reduceBEq, Nat.zero_add, ne_eq, not_false_eq_true, true_and, and_true, and_self, implies_true, List.nil_append, List.cons_append, Option.some.injEq, List.drop_zero, tab25, tab94, hN, hw]
      refine ⟨i + 1, fun z => if z = 9 then 21 else z, by simp only []; omega, by simp only []; omega, ?_⟩
      simp only [hW1, List.length_append, List.length_singleton]
      simp [SLe, SLe0, convTm, convHp, convB, conv, conv0, lkT, lkH, clean]
      intro id h1 _ h3; omega
  · have hie : i = n := by simp at h; omega
    subst hie
    have fin : extP i 0 [] 0 i ++ extP i 1 [] 0 i ++ extP i 2 [] 0 i = subs i := rfl
    have e1 := len_encLL (extP i 0 [] 0 i)
    have e2 := len_encLL (extP i 1 [] 0 i)
    have e3 := len_encLL (extP i 2 [] 0 i)
    have t1 := take_encLL (extP i 0 [] 0 i)
    have t2 := take_encLL (extP i 1 [] 0 i)
    have t3 := take_encLL (extP i 2 [] 0 i)
    have e4 : (encLL (extP i 0 [] 0 i ++ extP i 1 [] 0 i)).length = (extP i 0 [] 0 i).length + (extP i 1 [] 0 i).length := by rw [len_encLL, List.length_append]
    have t4 : (encLL (extP i 0 [] 0 i ++ extP i 1 [] 0 i)).take ((extP i 0 [] 0 i).length + (extP i 1 [] 0 i).length) = encLL (extP i 0 [] 0 i ++ extP i 1 [] 0 i) := List.take_of_length_le (by omega)
    have e5 : (encLL (subs i)).length = (extP i 0 [] 0 i).length + (extP i 1 [] 0 i).length + (extP i 2 [] 0 i).length := by rw [← fin, len_encLL, List.length_append, List.length_append]
    simp only [V_seq, V_ret, V_exit, V_region, W_nil, W_cons, effOp2, KN_seq, KXr_nil, KXe_nil, KXe_seq, KXe_block, KXe_back, QE, effOp, effPure, effAppend, effZeros, skipE, pureV, srcV, refId, strip, lkT, lkH, ISt.app, opI, gO, gB, allB, gval, wrapG, dstOK, setD, mentTm, mentHp, IV.ment, Gives, Ideal.Fin, conv, conv0, Op.operands, reduceIte, reduceCtorEq, cond_true, Bool.or_false, Nat.reduceLT, Nat.reduceEqDiff, Nat.reduceBEq, Nat.zero_add, ne_eq, not_false_eq_true, true_and, and_true, and_self, implies_true, List.nil_append, List.cons_append, Option.some.injEq, List.drop_zero, tab25, tab94, hN, e1, e2, e3, e4, t1, t2, t3, t4, encLL_app, fin]
    refine ⟨⟨by omega, by omega, by omega⟩, ⟨by omega, by omega, by omega⟩, _, _, rfl, by omega, (List.take_of_length_le (by omega)).symm, fun _ h => by cases h⟩
def sp_spec_subsets : PSpec := ⟨fun xs => match xs with | [.num .i64 nn] => ((fun (nn : Int) => 0 ≤ nn ∧ nn ≤ 100) nn) | _ => False, fun xs => match xs with | [.num _ nn] => (fun (nn : Int) => .sl 1 (encLL (subs nn.toNat))) nn | _ => .junk, false⟩
theorem gk_spec_subsets : ∀ args, sp_spec_subsets.pre args → ICall Try.prog 82 args (sp_spec_subsets.val args) := by
  intro args h
  unfold sp_spec_subsets at h ⊢; simp only at h ⊢; split at h
  · have h0 := h
    simp only [toPs_enc] at *
    exact c_spec_subsets _ h0
  · exact h.elim
theorem en_spec_subsets : Enters Try.prog 82 := enters_of Try.func82 (by kernel_rfl) rfl

theorem find_step {α : Type} {f : α → Bool} {l : List α} {i : Nat} {x : α} (h : l[i]? = some x) (hn : (l.take i).find? f = none) : (l.take (i + 1)).find? f = if f x then some x else none := by
  rw [List.take_add_one, List.find?_append, hn, h]
  simp [List.find?_cons]
  split <;> simp_all
theorem find_pre {α : Type} {f : α → Bool} {l : List α} {i : Nat} {x : α} (h : (l.take i).find? f = some x) : l.find? f = some x := by
  rw [← List.take_append_drop i l, List.find?_append, h]; rfl
theorem subs_len {n : Nat} (hn : n ≤ 100) : (subs n).length ≤ 2000000 := by
  have h1 := ext0_len n [] 0 (n - 0)
  have h2 := ext1_len hn [] 0 (n - 0)
  have h3 := ext2_len hn [] 0 (n - 0)
  rw [subs, List.length_append, List.length_append, exts_extP, exts_extP, exts_extP]
  omega
end Go.Proofs.Ytemppebemahkoaa
