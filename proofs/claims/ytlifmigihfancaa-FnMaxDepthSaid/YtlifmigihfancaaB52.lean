/- Contracts: lists of ints, compacted. -/
import Derived.Test.YtlifmigihfancaaB6
import Derived.Test.YtlifmigihfancaaPl27
set_option linter.unusedVariables false
set_option linter.unusedSimpArgs false
set_option maxHeartbeats 1600000
set_option maxRecDepth 100000
namespace Go.Proofs.Ytlifmigihfancaa
open Go Go.Ideal Go.Pl Go.Sort

def cpFI : Int → List Int → List Int
  | _, [] => []
  | q, x :: l => if x == q then cpFI x l else x :: cpFI x l
def compFI : List Int → List Int
  | [] => []
  | x :: l => x :: cpFI x l
theorem cpFI_eq : ∀ (q : Int) (l : List Int), cpFI q l = cpG q l
  | q, [] => rfl
  | q, x :: l => by
    rw [cpFI, cpG]
    by_cases h : x = q
    · rw [if_pos h, if_pos (by simpa using h), cpFI_eq]
    · rw [if_neg h, if_neg (by simpa using h), cpFI_eq]
theorem compFI_eq (l : List Int) : compFI l = compG l := by
  cases l with
  | nil => rfl
  | cons x l => rw [compFI, cpFI_eq]; rfl
theorem cpFI_step {q : Int} {l : List Int} {i : Nat} (hi : i < l.length) : cpFI q (l.drop i) = if iA l i == q then cpFI (iA l i) (l.drop (i + 1)) else iA l i :: cpFI (iA l i) (l.drop (i + 1)) := by
  rw [drop_eq_g (d := 0) hi, cpFI]
theorem compFI_at {l : List Int} (h : 0 < l.length) : compFI l = l.take 1 ++ cpFI (iA l 0) (l.drop 1) := by
  cases l with
  | nil => simp at h
  | cons x l => simp [compFI]
theorem cpFI_len (q : Int) (l : List Int) : (cpFI q l).length ≤ l.length := by
  induction l generalizing q with
  | nil => simp [cpFI]
  | cons x l ih =>
    simp only [cpFI]
    split
    · have := ih x; simp; omega
    · have := ih x; simp; omega
theorem compFI_len (l : List Int) : (compFI l).length ≤ l.length := by
  cases l with
  | nil => simp [compFI]
  | cons x l => have := cpFI_len x l; simp [compFI]; omega
theorem take_set_succI {l : List Int} {m : Nat} (hm : m < l.length) (x : Int) : (l.set m x).take (m + 1) = l.take m ++ [x] := by
  rw [take_succ_g (d := 0) (by simpa using hm), List.take_set_of_le (Nat.le_refl _)]
  simp [List.getD, hm]
theorem getD_set_neI {l : List Int} {m q : Nat} (h : m ≠ q) (x : Int) : iA (l.set m x) q = iA l q := by
  simp [List.getElem?_set_ne h]


def g_slices_Compact_int_int : List (Nat × PSpec) := []
theorem gok_slices_Compact_int_int : GOK Try.prog g_slices_Compact_int_int := gok0
def h_slices_Compact_int_int : List (Nat × HSpec) := []
theorem hok_slices_Compact_int_int : HOK Try.prog h_slices_Compact_int_int := hok0
theorem c_slices_Compact_int_int (l : List Int) (hsz : l.length ≤ 1000000) : HCall Try.prog 153 [.ref 1000 0 l.length true] (sm ([(1000, .arr 1 3 (encI l))])) (.ref 1000 0 (compFI l).length true) (sm ([(1000, .arr 1 3 (encI (compFI l)))])) := by
  refine hcall_V (G := g_slices_Compact_int_int) (H := []) [] tabOK mixed gok_slices_Compact_int_int hok_slices_Compact_int_int Try.func153 rfl Try.ntmps153 Try.results153 rfl (by kernel_rfl) fun F hN hlen => ?_
  simp only [sm]
  have el := len_encI l
  have hl : l.length ≤ maxLen := by rw [maxLen_eq]; omega
  have hx : ∃ k ty es, IBlk.arr 1 3 (encI l) = IBlk.arr k ty es := ⟨_, _, _, rfl⟩
  simp only [V_seq, V_region, V_cond, W_nil, W_cons, effOp2, KN_seq, asB, effOp, effPure, pureV, binV, lenV, ofC, strip, lkT, ISt.app, opI, gO, gB, allB, gval, wrapG, dstOK, setD, enumT, Op.operands, Call.operands, List.append_toArray, reduceIte, reduceCtorEq, Nat.reduceLT, Nat.reduceEqDiff, ne_eq, not_false_eq_true, true_and, and_self, implies_true, List.nil_append, List.cons_append, tab25, hN]
  refine brW_some (fun h => ?_) (fun h => ?_)
  · have hc : compFI l = l := by
      have : l.length < 2 := by simp at h; omega
      match l, this with
      | [], _ => rfl
      | [x], _ => rfl
    simp only [V_seq, V_ret, V_region, W_nil, W_cons, effOp2, KN_seq, KXr_nil, KXr_seq, QE, effOp, effPure, Option.isSome_some, pureV, strip, lkT, lkH, ISt.app, opI, gO, gB, allB, gval, wrapG, dstOK, setD, conv, conv0, Op.operands, reduceIte, reduceCtorEq, Nat.reduceLT, Nat.reduceEqDiff, true_and, and_true, and_self, implies_true, List.map_cons, List.map_nil, List.nil_append, List.cons_append, hN, FinH, resA, resV, SLe, SLe0, convTm, convHp, convB]
    rw [hc]
    exact ⟨fun i => i, by simp, fun _ _ _ => rfl⟩
  · have hlt : 2 ≤ l.length := by simp at h; omega
    simp only [V_seq, V_skip, V_block, V_region, W_nil, W_cons, effOp2, KN_seq, effOp, effPure, pureV, ofC, strip, ISt.app, opI, gO, gB, allB, gval, wrapG, dstOK, setD, Op.operands, Nat.reduceLT, true_and, and_self, implies_true, List.nil_append, List.cons_append, hN]
    refine V_loop (α := Nat) ⟨tabOK, mixed, gok_slices_Compact_int_int, hok_slices_Compact_int_int⟩ (by kernel_rfl) (fun i => 1 ≤ i ∧ i ≤ l.length ∧ compFI l = l.take i ++ cpFI (iA l (i - 1)) (l.drop i))
      (fun i => ⟨[(3, .num .i64 i), (0, .ref 1000 0 l.length true)], [(1000, some (.arr 1 3 (encI l)))]⟩) (fun i => l.length - i) 1 id ⟨Nat.le_refl _, by omega, compFI_at (by omega)⟩ (by simp [SLe, SLe0, convTm, convHp, convB, conv, conv0, lkT, lkH, clean]) ?_
    rintro i ⟨h1, hi, hj⟩
    simp only [V_seq, V_region, V_cond, W_nil, W_cons, effOp2, KN_seq, asB, effOp, effPure, pureV, binV, lenV, strip, lkT, ISt.app, opI, gO, gB, allB, gval, wrapG, dstOK, setD, Op.operands, Call.operands, List.append_toArray, reduceIte, reduceCtorEq, Nat.reduceLT, Nat.reduceEqDiff, ne_eq, not_false_eq_true, true_and, and_self, implies_true, List.nil_append, List.cons_append, tab25, hN]
    refine brW_some (fun h => ?_) (fun h => ?_)
    · have hi' : i < l.length := by simpa using h
      have g1 := getD_encI hi'
      have g2 := getD_encI (show i - 1 < l.length by omega)
      have hw := wr_succ hi' hl
      have hw2 : IntKind.i64.wrap ((i : Int) - 1) = ((i - 1 : Nat) : Int) := by
        rw [maxLen_eq] at hl
        rw [wr (by omega) (by omega)]
        omega
      simp only [V_seq, V_skip, V_block, V_draw, V_cond, drawW, pairsOf, WD_nil, WD_cons, effOp3, KN_seq, asB, effOp, effPure, pureV, binV, eltV, loadV, iaddrV, ofC, strip, lkT, lkH, ISt.app, opI, gO, gB, allB, gval, wrapG, dstOK, setD, Op.operands, reduceIte, reduceCtorEq, Nat.reduceLT, Nat.reduceEqDiff, Nat.zero_add, ne_eq, not_false_eq_true, true_and, and_true, and_self, implies_true, forall_const, List.nil_append, List.cons_append, tab3, tab25, hN, Int.toNat_natCast, el, Int.toNat_natCast, g1, g2, hw2, Nat.zero_add]
      repeat refine And.intro (by omega) ?_
      refine brW_some (fun h => ?_) (fun h => ?_)
      · simp only [V_seq, V_block, V_region, W_nil, W_cons, effOp2, KN_seq, effOp, effPure, pureV, sliceV, ofC, strip, lkT, lkH, ISt.app, opI, gO, gB, allB, gval, wrapG, dstOK, setD, Op.operands, List.append_toArray, Array.append_empty, Option.toArray_none, Option.toArray_some, reduceIte, reduceCtorEq, Nat.reduceLT, Nat.reduceEqDiff, Nat.zero_add, ne_eq, not_false_eq_true, true_and, and_true, and_self, implies_true, forall_const, List.nil_append, List.cons_append, Option.map_some, Option.map_none, tab3, tab25, hN, Int.toNat_natCast, Int.toNat_natCast, Nat.zero_add]
        refine ⟨⟨by omega, by omega⟩, ?_⟩
        refine V_loop (α := Nat × Nat × List Int) ⟨tabOK, mixed, gok_slices_Compact_int_int, hok_slices_Compact_int_int⟩ (by kernel_rfl)
          (fun b => 1 ≤ b.1 ∧ i + b.1 ≤ l.length ∧ b.2.2.length = l.length ∧ b.2.1 + 1 ≤ i + b.1 ∧ b.2.2.take b.2.1 ++ cpFI (iA l (i + b.1 - 1)) (l.drop (i + b.1)) = compFI l ∧ ∀ q, i + b.1 - 1 ≤ q → q < l.length → iA b.2.2 q = iA l q)
          (fun b => ⟨[(5, .num .i64 b.1), (4, .ref 1000 i (l.length - i) true), (3, .num .i64 b.2.1), (0, .ref 1000 0 l.length true)], [(1000, some (.arr 1 3 (encI b.2.2)))]⟩) (fun b => l.length - i - b.1) (1, i, l) id
          ⟨Nat.le_refl _, by simp only []; omega, rfl, by simp only []; omega, ?_, fun q _ _ => rfl⟩ (by simp [SLe, SLe0, convTm, convHp, convB, conv, conv0, lkT, lkH, clean]) ?_
        · rw [hj, cpFI_step hi', h]; rfl
        · rintro ⟨j, m, A⟩ ⟨b1, b2, b3, b4, b5, b6⟩
          simp only at b1 b2 b3 b4 b5 b6
          have hx : ∃ k ty es, IBlk.arr 1 3 (encI A) = IBlk.arr k ty es := ⟨_, _, _, rfl⟩
          simp only [V_seq, V_region, V_cond, W_nil, W_cons, effOp2, KN_seq, asB, effOp, effPure, pureV, binV, lenV, strip, lkT, ISt.app, opI, gO, gB, allB, gval, wrapG, dstOK, setD, Op.operands, Call.operands, List.append_toArray, reduceIte, reduceCtorEq, Nat.reduceLT, Nat.reduceEqDiff, ne_eq, not_false_eq_true, true_and, and_self, implies_true, List.nil_append, List.cons_append, tab25, hN]
          refine brW_some (fun h2 => ?_) (fun h2 => ?_)
          · have hq : i + j < l.length := by simp at h2; omega
            have g3 := getD_encI (show i + j < A.length by omega)
            have g4 := getD_encI (show i + (j - 1) < A.length by omega)
            have hw3 : IntKind.i64.wrap ((j : Int) + 1) = ((j + 1 : Nat) : Int) := wr_succ (show j < l.length by omega) hl
            have hw4 : IntKind.i64.wrap ((j : Int) - 1) = ((j - 1 : Nat) : Int) := by
              rw [maxLen_eq] at hl
              rw [wr (by omega) (by omega)]
              omega
            have hw5 : IntKind.i64.wrap ((m : Int) + 1) = ((m + 1 : Nat) : Int) := wr_succ (show m < l.length by omega) hl
            simp only [V_seq, V_skip, V_block, V_draw, V_cond, drawW, pairsOf, WD_nil, WD_cons, effOp3, KN_seq, asB, effOp, effPure, pureV, binV, eltV, loadV, iaddrV, ofC, strip, lkT, lkH, ISt.app, opI, gO, gB, allB, gval, wrapG, dstOK, setD, Op.operands, reduceIte, reduceCtorEq, Nat.reduceLT, Nat.reduceEqDiff, ne_eq, not_false_eq_true, true_and, and_true, and_self, implies_true, forall_const, List.nil_append, List.cons_append, tab3, tab25, hN, Int.toNat_natCast, Int.toNat_natCast, g3, g4, hw4]
            have eA := len_encI A
            refine ⟨⟨by omega, by omega⟩, by omega, ⟨by omega, by omega⟩, by omega, brW_some (fun h3 => ?_) (fun h3 => ?_)⟩
            · simp only [V_seq, V_region, W_nil, W_cons, effOp2, KN_seq, KN_block, KN_back, effOp, effPure, effStore, pureV, storeV, binV, eltV, loadV, iaddrV, over, solid, IV.cells, ofC, strip, lkT, lkH, ISt.app, opI, gO, gB, allB, gval, wrapG, dstOK, setD, eltI, oneI, noId', Op.operands, reduceIte, reduceCtorEq, cond_true, Bool.true_and, Nat.reduceLT, Nat.reduceLeDiff, Nat.reduceEqDiff, Nat.zero_add, ne_eq, not_false_eq_true, true_and, and_true, false_and, and_false, and_self, implies_true, forall_const, List.nil_append, List.cons_append, List.all_cons, List.length_cons, List.length_nil, List.take_zero, tab3, tab25, hN, Int.toNat_natCast, Int.toNat_natCast, g3, hw3, hw5, Nat.zero_add]
              have hne : (iA l (i + j) == iA l (i + j - 1)) = false := by
                have e1 := b6 (i + j) (by omega) hq
                have e2 := b6 (i + (j - 1)) (by omega) (by omega)
                rw [show i + (j - 1) = i + j - 1 by omega] at e2 h3
                simp only [iA] at e1 e2 ⊢
                rw [e1, e2] at h3
                simpa using h3
              have hs := cpFI_step (q := iA l (i + j - 1)) hq
              rw [hne] at hs
              refine ⟨⟨by omega, by omega⟩, by omega, ⟨by omega, by omega⟩, by omega, (j + 1, m + 1, A.set m (iA A (i + j))), id, ⟨by simp only []; omega, by simp only []; omega, by simpa using b3, by simp only []; omega, ?_, ?_⟩, by simp only []; omega,
                by simp [SLe, SLe0, convTm, convHp, convB, conv, conv0, lkT, lkH, clean, encI_set]⟩
              · simp only []
                rw [take_set_succI (by omega), b6 (i + j) (by omega) hq, show i + (j + 1) - 1 = i + j by omega, show i + (j + 1) = i + j + 1 by omega, ← b5, hs]
                simp
              · intro q h4 h5
                simp only [] at h4 ⊢
                rw [getD_set_neI (by omega)]
                exact b6 q (by omega) h5
            · simp only [V_skip, V_region, W_nil, W_cons, effOp2, KN_seq, KN_block, KN_back, effOp, effPure, pureV, binV, ofC, strip, lkT, ISt.app, opI, gO, gB, allB, gval, wrapG, dstOK, setD, Op.operands, reduceIte, reduceCtorEq, Nat.reduceLT, Nat.reduceEqDiff, true_and, and_self, implies_true, List.nil_append, List.cons_append, hN, hw3]
              have hne : (iA l (i + j) == iA l (i + j - 1)) = true := by
                have e1 := b6 (i + j) (by omega) hq
                have e2 := b6 (i + (j - 1)) (by omega) (by omega)
                rw [show i + (j - 1) = i + j - 1 by omega] at e2 h3
                simp only [iA] at e1 e2 ⊢
                rw [e1, e2] at h3
                simpa using h3
              have hs := cpFI_step (q := iA l (i + j - 1)) hq
              rw [hne] at hs
              refine ⟨(j + 1, m, A), id, ⟨by simp only []; omega, by simp only []; omega, b3, by simp only []; omega, ?_, fun q h4 h5 => b6 q (by simp only [] at h4; omega) h5⟩, by simp only []; omega, by simp [SLe, SLe0, convTm, convHp, convB, conv, conv0, lkT, lkH, clean]⟩
              simp only []
              rw [show i + (j + 1) - 1 = i + j by omega, show i + (j + 1) = i + j + 1 by omega, ← b5, hs]
              simp
          · simp only [V_seq, V_ret, V_exit, V_region, W_nil, W_cons, effOp2, KN_seq, KN_back, KXr_nil, KXr_seq, KXr_block, KXr_back, KXe_nil, KXe_seq, KXe_block, KXe_back, QE, effOp, effPure, Option.isSome_some, effClear, pureV, binV, sliceV, ofC, strip, lkT, lkH, ISt.app, opI, gO, gB, allB, gval, wrapG, dstOK, setD, zeroElt, noId', conv, conv0, Op.operands, List.append_toArray, Array.append_empty, Option.toArray_none, Option.toArray_some, reduceIte, reduceCtorEq, cond_true, Nat.reduceLT, Nat.reduceLeDiff, Nat.reduceEqDiff, Nat.zero_add, ne_eq, not_false_eq_true, true_and, and_true, and_self, implies_true, forall_const, List.map_cons, List.map_nil, List.nil_append, List.cons_append, Option.map_some, Option.map_none, tab3, tab25, hN, Int.toNat_natCast, FinH, resA, resV, SLe, SLe0, convTm, convHp, convB, Int.toNat_natCast, Nat.zero_add]
            have hjl : i + j = l.length := by simp at h2; omega
            have hcp : compFI l = A.take m := by rw [← b5, hjl]; simp [cpFI]
            have hcl : (compFI l).length = m := by rw [hcp]; simp; omega
            refine ⟨⟨by omega, by omega⟩, ⟨by rw [len_encI]; omega, rfl⟩, ⟨by omega, by omega⟩, id, ?_⟩
            simp [hcl, len_encI]
            rw [List.take_append_of_le_length (by simp [len_encI]; omega), encI_take, encI_take, List.take_take, Nat.min_self, hcp]
      · simp only [V_skip, V_region, W_nil, W_cons, effOp2, KN_seq, KN_block, KN_back, effOp, effPure, pureV, binV, ofC, strip, lkT, ISt.app, opI, gO, gB, allB, gval, wrapG, dstOK, setD, Op.operands, reduceIte, reduceCtorEq, Nat.reduceLT, Nat.reduceEqDiff, true_and, and_self, implies_true, List.nil_append, List.cons_append, hN, hw]
        refine ⟨i + 1, id, ⟨by omega, by omega, ?_⟩, by simp only []; omega, by simp [SLe, SLe0, convTm, convHp, convB, conv, conv0, lkT, lkH, clean]⟩
        rw [hj, cpFI_step hi', h, take_succ_g (d := 0) hi']
        simp
    · have hie : i = l.length := by simp at h; omega
      subst hie
      have hc : compFI l = l := by rw [hj]; simp [cpFI]
      simp only [V_seq, V_ret, V_exit, V_region, W_nil, W_cons, effOp2, KN_seq, KXr_nil, KXe_nil, KXe_seq, KXe_block, KXe_back, QE, effOp, effPure, Option.isSome_some, pureV, strip, lkT, lkH, ISt.app, opI, gO, gB, allB, gval, wrapG, dstOK, setD, conv, conv0, Op.operands, reduceIte, reduceCtorEq, Nat.reduceLT, Nat.reduceEqDiff, true_and, and_true, and_self, implies_true, List.map_cons, List.map_nil, List.nil_append, List.cons_append, hN, FinH, resA, resV, SLe, SLe0, convTm, convHp, convB]
      rw [hc]
      exact ⟨fun i => i, by simp, fun _ _ _ => rfl⟩
def hs_slices_Compact_int_int : HSpec := ⟨[false], fun xs hp => match xs, hp with | [.ref 1000 0 n true], [(1000, .arr 1 ty es)] => (isIs es) ∧ (ty = 3) ∧ (n = es.length) ∧ ((fun (l : List Int) => l.length ≤ 1000000) (toIs es)) | _, _ => False, fun xs hp => match xs, hp with | [.ref 1000 0 n true], [(1000, .arr 1 ty es)] => (fun (l : List Int) => (.ref 1000 0 (compFI l).length true : IV)) (toIs es) | _, _ => .junk, fun xs hp => match xs, hp with | [.ref 1000 0 n true], [(1000, .arr 1 ty es)] => (fun (l : List Int) => ([(1000, .arr 1 3 (encI (compFI l)))] : List (Nat × IBlk))) (toIs es) | _, _ => []⟩
theorem hk_slices_Compact_int_int : ∀ args hp, hs_slices_Compact_int_int.pre args hp → HCall Try.prog 153 args (sm hp) (hs_slices_Compact_int_int.val args hp) (sm (hs_slices_Compact_int_int.hval args hp)) := by
  intro args hp h
  unfold hs_slices_Compact_int_int at h ⊢; simp only at h ⊢; split at h
  · obtain ⟨h1, rfl, rfl, h2⟩ := h; obtain ⟨l, rfl⟩ := isI_ex h1; rw [toIs_enc] at *; rw [len_encI]; exact c_slices_Compact_int_int l h2
  · exact h.elim
theorem en_slices_Compact_int_int : Enters Try.prog 153 := enters_of Try.func153 (by kernel_rfl) rfl

end Go.Proofs.Ytlifmigihfancaa
