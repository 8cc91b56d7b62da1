/- Contracts: the first three vertices in whose triangle a point is. -/
import Derived.Test.YtiadicmnbjaknaaBT
import Derived.Test.YtiadicmnbjaknaaBLi
set_option linter.unusedVariables false
set_option linter.unusedSimpArgs false
set_option maxHeartbeats 16000000
set_option maxRecDepth 100000
namespace Go.Proofs.Ytiadicmnbjaknaa
open Go Go.Ideal Go.Pl Go.Sort

/-- The search, from n on; from k on; from i on. -/
def w3 (H : List Pt) (q : Pt) (i k n : Nat) : List Int :=
  if h : n < H.length then (if inTri (pAt H i) (pAt H k) (pAt H n) q = true then [(i : Int), (k : Int), (n : Int)] else w3 H q i k (n + 1)) else []
termination_by H.length - n
def w2 (H : List Pt) (q : Pt) (i k : Nat) : List Int :=
  if h : k < H.length then (if w3 H q i k k = [] then w2 H q i (k + 1) else w3 H q i k k) else []
termination_by H.length - k
def w1 (H : List Pt) (q : Pt) (i : Nat) : List Int :=
  if h : i < H.length then (if w2 H q i i = [] then w1 H q (i + 1) else w2 H q i i) else []
termination_by H.length - i
def witP (H : List Pt) (q : Pt) : List Int := w1 H q 0
theorem w3_end {H : List Pt} {q : Pt} {i k n : Nat} (h : ¬ n < H.length) : w3 H q i k n = [] := by rw [w3, dif_neg h]
theorem w3_yes {H : List Pt} {q : Pt} {i k n : Nat} (h : n < H.length) (ht : inTri (pAt H i) (pAt H k) (pAt H n) q = true) : w3 H q i k n = [(i : Int), (k : Int), (n : Int)] := by rw [w3, dif_pos h, if_pos ht]
theorem w3_no {H : List Pt} {q : Pt} {i k n : Nat} (h : n < H.length) (ht : inTri (pAt H i) (pAt H k) (pAt H n) q = false) : w3 H q i k n = w3 H q i k (n + 1) := by rw [w3, dif_pos h, if_neg (by rw [ht]; simp)]
theorem w2_end {H : List Pt} {q : Pt} {i k : Nat} (h : ¬ k < H.length) : w2 H q i k = [] := by rw [w2, dif_neg h]
theorem w2_yes {H : List Pt} {q : Pt} {i k : Nat} (h : k < H.length) (ht : w3 H q i k k ≠ []) : w2 H q i k = w3 H q i k k := by rw [w2, dif_pos h, if_neg ht]
theorem w2_no {H : List Pt} {q : Pt} {i k : Nat} (h : k < H.length) (ht : w3 H q i k k = []) : w2 H q i k = w2 H q i (k + 1) := by rw [w2, dif_pos h, if_pos ht]
theorem w1_end {H : List Pt} {q : Pt} {i : Nat} (h : ¬ i < H.length) : w1 H q i = [] := by rw [w1, dif_neg h]
theorem w1_yes {H : List Pt} {q : Pt} {i : Nat} (h : i < H.length) (ht : w2 H q i i ≠ []) : w1 H q i = w2 H q i i := by rw [w1, dif_pos h, if_neg ht]
theorem w1_no {H : List Pt} {q : Pt} {i : Nat} (h : i < H.length) (ht : w2 H q i i = []) : w1 H q i = w1 H q (i + 1) := by rw [w1, dif_pos h, if_pos ht]
theorem w3_len (H : List Pt) (q : Pt) (i k n : Nat) : (w3 H q i k n).length ≤ 3 := by
  fun_induction w3 H q i k n <;> simp_all
theorem w2_len (H : List Pt) (q : Pt) (i k : Nat) : (w2 H q i k).length ≤ 3 := by
  fun_induction w2 H q i k <;> simp_all [w3_len]
theorem w1_len (H : List Pt) (q : Pt) (i : Nat) : (w1 H q i).length ≤ 3 := by
  fun_induction w1 H q i <;> simp_all [w2_len]
theorem witP_len (H : List Pt) (q : Pt) : (witP H q).length ≤ 3 := w1_len H q 0
theorem w3_three (H : List Pt) (q : Pt) (i k n : Nat) : w3 H q i k n = [] ∨ (w3 H q i k n).length = 3 := by
  fun_induction w3 H q i k n <;> simp_all
theorem w2_three (H : List Pt) (q : Pt) (i k : Nat) : w2 H q i k = [] ∨ (w2 H q i k).length = 3 := by
  fun_induction w2 H q i k
  · assumption
  · exact w3_three H q i _ _
  · exact .inl rfl
theorem w1_three (H : List Pt) (q : Pt) (i : Nat) : w1 H q i = [] ∨ (w1 H q i).length = 3 := by
  fun_induction w1 H q i
  · assumption
  · exact w2_three H q _ _
  · exact .inl rfl
theorem wit_three {H : List Pt} {q : Pt} (h : witP H q ≠ []) : (witP H q).length = 3 := (w1_three H q 0).resolve_left h
theorem icallF_nils {f : Nat} {args : List IV} {k : Nat} (h : ICall Try.prog f args .nils) : ICallF Try.prog f args (.sl k []) := by
  intro A w vs hA hR
  refine (h A w vs hA hR).mono ?_
  rintro e w' ⟨x, h1, h2, h3⟩
  refine ⟨x, h1, h2, ?_⟩
  simp only [RepV] at h3 ⊢
  exact ⟨_, _, _, h3, rfl, Nat.le_refl _, by rw [maxLen_eq]; omega, fun _ => rfl, fun _ => rfl, fun h0 => absurd h0 (Nat.lt_irrefl _)⟩
/-- Found: what is found is what is looked for. -/
theorem wit_found {H : List Pt} {q : Pt} {i k n : Nat} (hi : i < H.length) (hk : k < H.length) (hn : n < H.length) (e1 : witP H q = w1 H q i) (e2 : w2 H q i i = w2 H q i k) (e3 : w3 H q i k k = w3 H q i k n)
    (ht : inTri (pAt H i) (pAt H k) (pAt H n) q = true) : witP H q = [(i : Int), (k : Int), (n : Int)] := by
  have h3 := e3.trans (w3_yes hn ht)
  have h2 : w2 H q i i = [(i : Int), (k : Int), (n : Int)] := by rw [e2, w2_yes hk (by rw [h3]; simp), h3]
  rw [e1, w1_yes hi (by rw [h2]; simp), h2]

def g_impl_witness : List (Nat × PSpec) := [(35, sp_impl_inTriangle)]
theorem gok_impl_witness : GOK Try.prog g_impl_witness := gok_cons gk_impl_inTriangle en_impl_inTriangle (gok0)
theorem lk_impl_witness_impl_inTriangle : lkG g_impl_witness 35 = sp_impl_inTriangle := rfl
def h_impl_witness : List (Nat × HSpec) := []
theorem hok_impl_witness : HOK Try.prog h_impl_witness := hok0
theorem c_impl_witness (H : List Pt) (q : Pt) (hm : SmL H) (hq : Sm q) (hf : witP H q ≠ []) : HCall Try.prog 19 [.sl 2 (encPs H), encP q] (sm ([])) (.ref 0 0 3 true) (sm ([(0, .arr 1 3 (encI (witP H q)))])) := by
  refine hcall_V (G := g_impl_witness) (H := []) [(10, [(0, 13), (1, 13), (2, 13), (4, 13), (5, 13), (6, 13), (8, 13), (9, 13), (10, 13)])] tabOK mixed gok_impl_witness hok_impl_witness Try.func19 rfl Try.ntmps19 Try.results19 rfl (by kernel_rfl) fun F hN hlen => ?_
  simp only [sm]
  have hl := hlen 0 2 _ rfl
  have el := len_encPs H
  rw [el] at hl
  simp only [V_seq, V_block, V_region, W_nil, W_cons, effOp2, KN_seq, effOp, effPure, effNew, effBox, skipE, pureV, lenV, solid, IV.cells, ofC, strip, lkT, ISt.app, opI, gO, gB, allB, gval, wrapG, dstOK, setD, mentTm, mentHp, IV.ment, IV.mentL, oneI, enumT, Op.operands, Call.operands, List.append_toArray, reduceIte, reduceCtorEq, cond_true, Bool.or_false, Bool.and_true, Nat.reduceLT, Nat.reduceEqDiff, Nat.zero_add, ne_eq, not_false_eq_true, true_and, and_self, implies_true, List.nil_append, List.cons_append, List.append_nil, List.all_cons, List.all_nil, tab26, hN, encP, el]
  repeat refine And.intro (by first | omega | (simp; done) | (simp; omega)) ?_
  refine V_loop (α := Nat) ⟨tabOK, mixed, gok_impl_witness.toF F, hok_impl_witness⟩ (by kernel_rfl) (fun i => i ≤ H.length ∧ witP H q = w1 H q i) (fun i => ⟨[(10, .num .i64 i), (9, .num .i64 H.length), (0, .sl 2 (encPs H)), (3, .ptr 3 0)], [(3, some (.box 38 [.num .i64 q.1, .num .i64 q.2]))]⟩) (fun i => H.length - i) 0 id ⟨Nat.zero_le _, rfl⟩ (by simp [SLe, SLe0, convTm, convHp, convB, conv, conv0, convL, lkT, lkH, clean]) ?_
  rintro i ⟨hi, e1⟩
  simp only [V_seq, V_region, V_cond, W_nil, W_cons, effOp2, KN_seq, asB, effOp, effPure, pureV, binV, strip, lkT, ISt.app, opI, gO, gB, allB, gval, wrapG, dstOK, setD, Op.operands, reduceIte, reduceCtorEq, Nat.reduceLT, Nat.reduceEqDiff, true_and, and_self, implies_true, List.nil_append, List.cons_append, hN]
  refine brW_some (fun h => ?_) (fun h => ?_)
  · have hi' : i < H.length := by simpa using h
    have hw := wr_succ hi' hl
    have g0 := getD_encPs hi'
    simp only [V_seq, V_skip, V_block, V_region, W_nil, W_cons, effOp2, KN_seq, effOp, effPure, pureV, strip, lkT, ISt.app, opI, gO, gB, allB, gval, wrapG, dstOK, setD, Op.operands, reduceIte, reduceCtorEq, Nat.reduceLT, Nat.reduceEqDiff, true_and, and_self, implies_true, List.nil_append, List.cons_append, hN]
    repeat refine And.intro (by first | omega | (simp; done) | (simp; omega)) ?_
    refine V_loop (α := Nat) ⟨tabOK, mixed, gok_impl_witness.toF F, hok_impl_witness⟩ (by kernel_rfl) (fun k => k ≤ H.length ∧ w2 H q i i = w2 H q i k) (fun k => ⟨[(6, .num .i64 k), (5, .num .i64 i), (10, .num .i64 i), (9, .num .i64 H.length), (0, .sl 2 (encPs H)), (3, .ptr 3 0)], [(3, some (.box 38 [.num .i64 q.1, .num .i64 q.2]))]⟩) (fun k => H.length - k) i id ⟨hi, rfl⟩ (by simp [SLe, SLe0, convTm, convHp, convB, conv, conv0, convL, lkT, lkH, clean]) ?_
    rintro k ⟨hk, e2⟩
    simp only [V_seq, V_region, V_cond, W_nil, W_cons, effOp2, KN_seq, asB, effOp, effPure, pureV, binV, lenV, strip, lkT, ISt.app, opI, gO, gB, allB, gval, wrapG, dstOK, setD, Op.operands, Call.operands, List.append_toArray, reduceIte, reduceCtorEq, Nat.reduceLT, Nat.reduceEqDiff, ne_eq, not_false_eq_true, true_and, and_self, implies_true, List.nil_append, List.cons_append, tab26, hN, el]
    refine brW_some (fun h => ?_) (fun h => ?_)
    · have hk' : k < H.length := by simpa using h
      have hw2 := wr_succ hk' hl
      have g1 := getD_encPs hk'
      simp only [V_seq, V_skip, V_block, V_region, W_nil, W_cons, effOp2, KN_seq, effOp, effPure, pureV, strip, lkT, ISt.app, opI, gO, gB, allB, gval, wrapG, dstOK, setD, Op.operands, reduceIte, reduceCtorEq, Nat.reduceLT, Nat.reduceEqDiff, true_and, and_self, implies_true, List.nil_append, List.cons_append, hN]
      repeat refine And.intro (by first | omega | (simp; done) | (simp; omega)) ?_
      refine V_loop (α := Nat) ⟨tabOK, mixed, gok_impl_witness.toF F, hok_impl_witness⟩ (by kernel_rfl) (fun n => n ≤ H.length ∧ w3 H q i k k = w3 H q i k n) (fun n => ⟨[(7, .num .i64 n), (6, .num .i64 k), (5, .num .i64 i), (10, .num .i64 i), (9, .num .i64 H.length), (0, .sl 2 (encPs H)), (3, .ptr 3 0)], [(3, some (.box 38 [.num .i64 q.1, .num .i64 q.2]))]⟩) (fun n => H.length - n) k id ⟨hk, rfl⟩ (by simp [SLe, SLe0, convTm, convHp, convB, conv, conv0, convL, lkT, lkH, clean]) ?_
      rintro n ⟨hn, e3⟩
      simp only [V_seq, V_region, V_cond, W_nil, W_cons, effOp2, KN_seq, asB, effOp, effPure, pureV, binV, lenV, strip, lkT, ISt.app, opI, gO, gB, allB, gval, wrapG, dstOK, setD, Op.operands, Call.operands, List.append_toArray, reduceIte, reduceCtorEq, Nat.reduceLT, Nat.reduceEqDiff, ne_eq, not_false_eq_true, true_and, and_self, implies_true, List.nil_append, List.cons_append, tab26, hN, el]
      refine brW_some (fun h => ?_) (fun h => ?_)
      · have hn' : n < H.length := by simpa using h
        have hw3 := wr_succ hn' hl
        have g2 := getD_encPs hn'
        have s0 := hm.at i
        have s1 := hm.at k
        have s2 := hm.at n
        have hY : inTri (pAt H i) (pAt H k) (pAt H n) q = true → witP H q = [(i : Int), (k : Int), (n : Int)] := fun ht => wit_found hi' hk' hn' e1 e2 e3 ht
        have hX : inTri (pAt H i) (pAt H k) (pAt H n) q = false → w3 H q i k k = w3 H q i k (n + 1) := fun ht => e3.trans (w3_no hn' ht)
        obtain ⟨a, ha⟩ : ∃ a, pAt H i = a := ⟨_, rfl⟩
        obtain ⟨b, hb⟩ : ∃ b, pAt H k = b := ⟨_, rfl⟩
        obtain ⟨c, hc⟩ : ∃ c, pAt H n = c := ⟨_, rfl⟩
        rw [ha] at g0 s0 hY hX
        rw [hb] at g1 s1 hY hX
        rw [hc] at g2 s2 hY hX
        cases ht : inTri a b c q with
        | true =>
          have hv := hY ht
          (simp only [V_seq, V_skip, V_ret, V_block, V_region, V_draw, V_cond, brW_true, drawW, WS_nil, pairsOf, W_nil, W_cons, effOp2, effOp3, WI_nil, WI_cons, KN_seq, KXr_nil, KXr_seq, KXr_block, KXr_back, QE, dynOK, indB, farB, freshB, freshK, freshK1, heapy, asB, effOp, effPure, effNew, effBuildSlice, effFrz, frz, tmpsOf, effCall, giveUp, hasAll, Option.isSome_some, skipE, pureV, partV, eltV, loadV, iaddrV, strip, lkT, lkH, ISt.app, opI, gO, gB, allB, gval, wrapG, dstOK, setD, mentTm, mentHp, IV.ment, IV.mentL, partsL, eltsI, eltI, noId', lendV, lendP, lent, lentP, idsV, idsL, lkHS, flat, clean, callArgs, callFn, allLent, conv, conv0, Op.operands, Call.operands, List.append_toArray, reduceIte, reduceCtorEq, cond_true, cond_false, Bool.or_false, Bool.and_true, Bool.and_eq_true, Bool.not_true, Bool.not_false, Nat.reduceAdd, Nat.reduceMul, Nat.reduceLT, Nat.reduceLeDiff, Nat.reduceEqDiff, Nat.reduceBEq, Nat.zero_add, ne_eq, not_false_eq_true, true_and, and_true, and_false, and_self, implies_true, forall_const, List.map_cons, List.map_nil, List.nil_append, List.cons_append, List.append_nil, List.getD_cons_zero, List.getD_cons_succ, List.length_cons, List.length_nil, List.take_succ_cons, List.take_zero, List.take_nil, List.drop_zero, ex_clo, or_self, tab3, tab26, tab35, tab38, hN, pe, Int.toNat_natCast, FinH, resA, resV, SLe, SLe0, convTm, convHp, convB, lk_impl_witness_impl_inTriangle, sp_impl_inTriangle, el, g0, g1, g2, s0, s1, s2, hq, ht]; (repeat refine And.intro (by first | omega | (simp; done) | (simp; omega)) ?_); exact ⟨fun x => if x = 0 then 44 else x, by simp [hv, encI]; omega⟩)
        | false =>
          have hst := hX ht
          simp only [V_seq, V_skip, V_block, V_region, V_draw, V_cond, brW_false, drawW, WS_nil, pairsOf, W_nil, W_cons, effOp2, effOp3, WI_nil, WI_cons, KN_seq, KN_block, KN_back, dynOK, indB, farB, freshB, freshK, freshK1, heapy, asB, effOp, effPure, effCall, giveUp, hasAll, pureV, binV, partV, eltV, loadV, iaddrV, ofC, strip, lkT, lkH, ISt.app, opI, gO, gB, allB, gval, wrapG, dstOK, setD, mentTm, mentHp, IV.ment, lendV, lendP, lent, lentP, idsV, idsL, lkHS, flat, clean, callArgs, callFn, allLent, Op.operands, Call.operands, List.append_toArray, reduceIte, reduceCtorEq, cond_true, cond_false, Bool.or_false, Bool.and_true, Bool.and_eq_true, Bool.not_true, Bool.not_false, Nat.reduceAdd, Nat.reduceLT, Nat.reduceLeDiff, Nat.reduceEqDiff, Nat.reduceBEq, Nat.zero_add, ne_eq, not_false_eq_true, true_and, and_true, and_false, and_self, implies_true, forall_const, List.map_cons, List.map_nil, List.nil_append, List.cons_append, List.append_nil, List.getD_cons_zero, List.getD_cons_succ, List.length_cons, List.length_nil, List.take_succ_cons, List.take_zero, List.take_nil, List.drop_zero, ex_clo, or_self, tab26, tab38, hN, pe, Int.toNat_natCast, lk_impl_witness_impl_inTriangle, sp_impl_inTriangle, el, g0, g1, g2, s0, s1, s2, hq, ht, hw3]
          repeat refine And.intro (by first | omega | (simp; done) | (simp; omega)) ?_
          exact ⟨n + 1, id, ⟨hn', hst⟩, by simp only []; omega, by simp [SLe, SLe0, convTm, convHp, convB, conv, conv0, convL, lkT, lkH, clean]⟩
      · have hne : n = H.length := by simp at h; omega
        have h3 : w3 H q i k k = [] := by rw [e3, w3_end (by omega)]
        simp only [V_seq, V_ret, V_exit, V_region, W_nil, W_cons, effOp2, KN_seq, KN_block, KN_back, KXr_nil, KXe_nil, KXe_seq, KXe_block, KXe_back, QE, effOp, effPure, pureV, binV, ofC, strip, lkT, lkH, ISt.app, opI, gO, gB, allB, gval, wrapG, dstOK, setD, conv, conv0, Op.operands, reduceIte, reduceCtorEq, Nat.reduceLT, Nat.reduceEqDiff, true_and, and_true, false_and, and_self, implies_true, List.map_cons, List.map_nil, List.nil_append, List.cons_append, hN, FinH, resA, resV, SLe, SLe0, convTm, convHp, convB, hw2]
        repeat refine And.intro (by first | omega | (simp; done) | (simp; omega)) ?_
        exact ⟨k + 1, id, ⟨hk', e2.trans (w2_no hk' h3)⟩, by simp only []; omega, by simp [SLe, SLe0, convTm, convHp, convB, conv, conv0, convL, lkT, lkH, clean]⟩
    · have hke : k = H.length := by simp at h; omega
      have h2 : w2 H q i i = [] := by rw [e2, w2_end (by omega)]
      simp only [V_seq, V_ret, V_exit, V_region, W_nil, W_cons, effOp2, KN_seq, KN_block, KN_back, KXr_nil, KXe_nil, KXe_seq, KXe_block, KXe_back, QE, effOp, effPure, pureV, binV, ofC, strip, lkT, lkH, ISt.app, opI, gO, gB, allB, gval, wrapG, dstOK, setD, conv, conv0, Op.operands, reduceIte, reduceCtorEq, Nat.reduceLT, Nat.reduceEqDiff, true_and, and_true, false_and, and_self, implies_true, List.map_cons, List.map_nil, List.nil_append, List.cons_append, hN, FinH, resA, resV, SLe, SLe0, convTm, convHp, convB, hw]
      repeat refine And.intro (by first | omega | (simp; done) | (simp; omega)) ?_
      exact ⟨i + 1, id, ⟨hi', e1.trans (w1_no hi' h2)⟩, by simp only []; omega, by simp [SLe, SLe0, convTm, convHp, convB, conv, conv0, convL, lkT, lkH, clean]⟩
  · have hie : i = H.length := by simp at h; omega
    have hz := e1.trans (w1_end (q := q) (show ¬ i < H.length by omega))
    exact absurd hz hf
def hs_impl_witness : HSpec := ⟨[true, false], fun xs hp => match xs, hp with | [.sl 2 es, .agg [.num .i64 q1, .num .i64 q2]], [] => (isPs es) ∧ ((fun (H : List Pt) (q : Pt) => SmL H) (toPs es) (q1, q2)) ∧ ((fun (H : List Pt) (q : Pt) => Sm q) (toPs es) (q1, q2)) ∧ ((fun (H : List Pt) (q : Pt) => witP H q ≠ []) (toPs es) (q1, q2)) | _, _ => False, fun xs hp => match xs, hp with | [.sl 2 es, .agg [.num .i64 q1, .num .i64 q2]], [] => (fun (H : List Pt) (q : Pt) => (.ref 0 0 3 true : IV)) (toPs es) (q1, q2) | _, _ => .junk, fun xs hp => match xs, hp with | [.sl 2 es, .agg [.num .i64 q1, .num .i64 q2]], [] => (fun (H : List Pt) (q : Pt) => ([(0, .arr 1 3 (encI (witP H q)))] : List (Nat × IBlk))) (toPs es) (q1, q2) | _, _ => []⟩
theorem hk_impl_witness : ∀ args hp, hs_impl_witness.pre args hp → HCall Try.prog 19 args (sm hp) (hs_impl_witness.val args hp) (sm (hs_impl_witness.hval args hp)) := by
  intro args hp h
  unfold hs_impl_witness at h ⊢; simp only at h ⊢; split at h
  · obtain ⟨h1, h2, h3, h4⟩ := h; obtain ⟨H, rfl⟩ := isP_ex h1; rw [toPs_enc] at *; exact c_impl_witness H _ h2 h3 h4
  · exact h.elim
theorem en_impl_witness : Enters Try.prog 19 := enters_of Try.func19 (by kernel_rfl) rfl

def g_impl_witness_n : List (Nat × PSpec) := [(35, sp_impl_inTriangle)]
theorem gok_impl_witness_n : GOK Try.prog g_impl_witness_n := gok_cons gk_impl_inTriangle en_impl_inTriangle (gok0)
theorem lk_impl_witness_n_impl_inTriangle : lkG g_impl_witness_n 35 = sp_impl_inTriangle := rfl
def h_impl_witness_n : List (Nat × HSpec) := []
theorem hok_impl_witness_n : HOK Try.prog h_impl_witness_n := hok0
theorem c_impl_witness_n (H : List Pt) (q : Pt) (hm : SmL H) (hq : Sm q) (hf : witP H q = []) : ICall Try.prog 19 [.sl 2 (encPs H), encP q] (.nils) := by
  refine icall_V (G := g_impl_witness_n) (H := []) [(10, [(0, 13), (1, 13), (2, 13), (4, 13), (5, 13), (6, 13), (8, 13), (9, 13), (10, 13)])] tabOK mixed gok_impl_witness_n hok_impl_witness_n Try.func19 rfl Try.ntmps19 Try.results19 rfl (by kernel_rfl) fun F hN hlen => ?_
  have hl := hlen 0 2 _ rfl
  have el := len_encPs H
  rw [el] at hl
  simp only [V_seq, V_block, V_region, W_nil, W_cons, effOp2, KN_seq, effOp, effPure, effNew, effBox, skipE, pureV, lenV, solid, IV.cells, ofC, strip, lkT, ISt.app, opI, gO, gB, allB, gval, wrapG, dstOK, setD, mentTm, mentHp, IV.ment, IV.mentL, oneI, enumT, Op.operands, Call.operands, List.append_toArray, reduceIte, reduceCtorEq, cond_true, Bool.or_false, Bool.and_true, Nat.reduceLT, Nat.reduceEqDiff, Nat.zero_add, ne_eq, not_false_eq_true, true_and, and_self, implies_true, List.nil_append, List.cons_append, List.append_nil, List.all_cons, List.all_nil, tab26, hN, encP, el]
  repeat refine And.intro (by first | omega | (simp; done) | (simp; omega)) ?_
  refine V_loop (α := Nat) ⟨tabOK, mixed, gok_impl_witness_n.toF F, hok_impl_witness_n⟩ (by kernel_rfl) (fun i => i ≤ H.length ∧ witP H q = w1 H q i) (fun i => ⟨[(10, .num .i64 i), (9, .num .i64 H.length), (0, .sl 2 (encPs H)), (3, .ptr 3 0)], [(3, some (.box 38 [.num .i64 q.1, .num .i64 q.2]))]⟩) (fun i => H.length - i) 0 id ⟨Nat.zero_le _, rfl⟩ (by simp [SLe, SLe0, convTm, convHp, convB, conv, conv0, convL, lkT, lkH, clean]) ?_
  rintro i ⟨hi, e1⟩
  simp only [V_seq, V_region, V_cond, W_nil, W_cons, effOp2, KN_seq, asB, effOp, effPure, pureV, binV, strip, lkT, ISt.app, opI, gO, gB, allB, gval, wrapG, dstOK, setD, Op.operands, reduceIte, reduceCtorEq, Nat.reduceLT, Nat.reduceEqDiff, true_and, and_self, implies_true, List.nil_append, List.cons_append, hN]
  refine brW_some (fun h => ?_) (fun h => ?_)
  · have hi' : i < H.length := by simpa using h
    have hw := wr_succ hi' hl
    have g0 := getD_encPs hi'
    simp only [V_seq, V_skip, V_block, V_region, W_nil, W_cons, effOp2, KN_seq, effOp, effPure, pureV, strip, lkT, ISt.app, opI, gO, gB, allB, gval, wrapG, dstOK, setD, Op.operands, reduceIte, reduceCtorEq, Nat.reduceLT, Nat.reduceEqDiff, true_and, and_self, implies_true, List.nil_append, List.cons_append, hN]
    repeat refine And.intro (by first | omega | (simp; done) | (simp; omega)) ?_
    refine V_loop (α := Nat) ⟨tabOK, mixed, gok_impl_witness_n.toF F, hok_impl_witness_n⟩ (by kernel_rfl) (fun k => k ≤ H.length ∧ w2 H q i i = w2 H q i k) (fun k => ⟨[(6, .num .i64 k), (5, .num .i64 i), (10, .num .i64 i), (9, .num .i64 H.length), (0, .sl 2 (encPs H)), (3, .ptr 3 0)], [(3, some (.box 38 [.num .i64 q.1, .num .i64 q.2]))]⟩) (fun k => H.length - k) i id ⟨hi, rfl⟩ (by simp [SLe, SLe0, convTm, convHp, convB, conv, conv0, convL, lkT, lkH, clean]) ?_
    rintro k ⟨hk, e2⟩
    simp only [V_seq, V_region, V_cond, W_nil, W_cons, effOp2, KN_seq, asB, effOp, effPure, pureV, binV, lenV, strip, lkT, ISt.app, opI, gO, gB, allB, gval, wrapG, dstOK, setD, Op.operands, Call.operands, List.append_toArray, reduceIte, reduceCtorEq, Nat.reduceLT, Nat.reduceEqDiff, ne_eq, not_false_eq_true, true_and, and_self, implies_true, List.nil_append, List.cons_append, tab26, hN, el]
    refine brW_some (fun h => ?_) (fun h => ?_)
    · have hk' : k < H.length := by simpa using h
      have hw2 := wr_succ hk' hl
      have g1 := getD_encPs hk'
      simp only [V_seq, V_skip, V_block, V_region, W_nil, W_cons, effOp2, KN_seq, effOp, effPure, pureV, strip, lkT, ISt.app, opI, gO, gB, allB, gval, wrapG, dstOK, setD, Op.operands, reduceIte, reduceCtorEq, Nat.reduceLT, Nat.reduceEqDiff, true_and, and_self, implies_true, List.nil_append, List.cons_append, hN]
      repeat refine And.intro (by first | omega | (simp; done) | (simp; omega)) ?_
      refine V_loop (α := Nat) ⟨tabOK, mixed, gok_impl_witness_n.toF F, hok_impl_witness_n⟩ (by kernel_rfl) (fun n => n ≤ H.length ∧ w3 H q i k k = w3 H q i k n) (fun n => ⟨[(7, .num .i64 n), (6, .num .i64 k), (5, .num .i64 i), (10, .num .i64 i), (9, .num .i64 H.length), (0, .sl 2 (encPs H)), (3, .ptr 3 0)], [(3, some (.box 38 [.num .i64 q.1, .num .i64 q.2]))]⟩) (fun n => H.length - n) k id ⟨hk, rfl⟩ (by simp [SLe, SLe0, convTm, convHp, convB, conv, conv0, convL, lkT, lkH, clean]) ?_
      rintro n ⟨hn, e3⟩
      simp only [V_seq, V_region, V_cond, W_nil, W_cons, effOp2, KN_seq, asB, effOp, effPure, pureV, binV, lenV, strip, lkT, ISt.app, opI, gO, gB, allB, gval, wrapG, dstOK, setD, Op.operands, Call.operands, List.append_toArray, reduceIte, reduceCtorEq, Nat.reduceLT, Nat.reduceEqDiff, ne_eq, not_false_eq_true, true_and, and_self, implies_true, List.nil_append, List.cons_append, tab26, hN, el]
      refine brW_some (fun h => ?_) (fun h => ?_)
      · have hn' : n < H.length := by simpa using h
        have hw3 := wr_succ hn' hl
        have g2 := getD_encPs hn'
        have s0 := hm.at i
        have s1 := hm.at k
        have s2 := hm.at n
        have hY : inTri (pAt H i) (pAt H k) (pAt H n) q = true → witP H q = [(i : Int), (k : Int), (n : Int)] := fun ht => wit_found hi' hk' hn' e1 e2 e3 ht
        have hX : inTri (pAt H i) (pAt H k) (pAt H n) q = false → w3 H q i k k = w3 H q i k (n + 1) := fun ht => e3.trans (w3_no hn' ht)
        obtain ⟨a, ha⟩ : ∃ a, pAt H i = a := ⟨_, rfl⟩
        obtain ⟨b, hb⟩ : ∃ b, pAt H k = b := ⟨_, rfl⟩
        obtain ⟨c, hc⟩ : ∃ c, pAt H n = c := ⟨_, rfl⟩
        rw [ha] at g0 s0 hY hX
        rw [hb] at g1 s1 hY hX
        rw [hc] at g2 s2 hY hX
        cases ht : inTri a b c q with
        | true =>
          have hv := hY ht
          exact absurd (hv.symm.trans hf) (by simp)
        | false =>
          have hst := hX ht
          simp only [V_seq, V_skip, V_block, V_region, V_draw, V_cond, brW_false, drawW, WS_nil, pairsOf, W_nil, W_cons, effOp2, effOp3, WI_nil, WI_cons, KN_seq, KN_block, KN_back, dynOK, indB, farB, freshB, freshK, freshK1, heapy, asB, effOp, effPure, effCall, giveUp, hasAll, pureV, binV, partV, eltV, loadV, iaddrV, ofC, strip, lkT, lkH, ISt.app, opI, gO, gB, allB, gval, wrapG, dstOK, setD, mentTm, mentHp, IV.ment, lendV, lendP, lent, lentP, idsV, idsL, lkHS, flat, clean, callArgs, callFn, allLent, Op.operands, Call.operands, List.append_toArray, reduceIte, reduceCtorEq, cond_true, cond_false, Bool.or_false, Bool.and_true, Bool.and_eq_true, Bool.not_true, Bool.not_false, Nat.reduceAdd, Nat.reduceLT, Nat.reduceLeDiff, Nat.reduceEqDiff, Nat.reduceBEq, Nat.zero_add, ne_eq, not_false_eq_true, true_and, and_true, and_false, and_self, implies_true, forall_const, List.map_cons, List.map_nil, List.nil_append, List.cons_append, List.append_nil, List.getD_cons_zero, List.getD_cons_succ, List.length_cons, List.length_nil, List.take_succ_cons, List.take_zero, List.take_nil, List.drop_zero, ex_clo, or_self, tab26, tab38, hN, pe, Int.toNat_natCast, lk_impl_witness_n_impl_inTriangle, sp_impl_inTriangle, el, g0, g1, g2, s0, s1, s2, hq, ht, hw3]
          repeat refine And.intro (by first | omega | (simp; done) | (simp; omega)) ?_
          exact ⟨n + 1, id, ⟨hn', hst⟩, by simp only []; omega, by simp [SLe, SLe0, convTm, convHp, convB, conv, conv0, convL, lkT, lkH, clean]⟩
      · have hne : n = H.length := by simp at h; omega
        have h3 : w3 H q i k k = [] := by rw [e3, w3_end (by omega)]
        simp only [V_seq, V_ret, V_exit, V_region, W_nil, W_cons, effOp2, KN_seq, KN_block, KN_back, KXr_nil, KXe_nil, KXe_seq, KXe_block, KXe_back, QE, effOp, effPure, pureV, binV, ofC, strip, lkT, lkH, ISt.app, opI, gO, gB, allB, gval, wrapG, dstOK, setD, clean, Gives, Ideal.Fin, conv, conv0, Op.operands, reduceIte, reduceCtorEq, Nat.reduceLT, Nat.reduceEqDiff, true_and, and_self, implies_true, List.nil_append, List.cons_append, hN, hw2]
        repeat refine And.intro (by first | omega | (simp; done) | (simp; omega)) ?_
        exact ⟨k + 1, id, ⟨hk', e2.trans (w2_no hk' h3)⟩, by simp only []; omega, by simp [SLe, SLe0, convTm, convHp, convB, conv, conv0, convL, lkT, lkH, clean]⟩
    · have hke : k = H.length := by simp at h; omega
      have h2 : w2 H q i i = [] := by rw [e2, w2_end (by omega)]
      simp only [V_seq, V_ret, V_exit, V_region, W_nil, W_cons, effOp2, KN_seq, KN_block, KN_back, KXr_nil, KXe_nil, KXe_seq, KXe_block, KXe_back, QE, effOp, effPure, pureV, binV, ofC, strip, lkT, lkH, ISt.app, opI, gO, gB, allB, gval, wrapG, dstOK, setD, clean, Gives, Ideal.Fin, conv, conv0, Op.operands, reduceIte, reduceCtorEq, Nat.reduceLT, Nat.reduceEqDiff, true_and, and_self, implies_true, List.nil_append, List.cons_append, hN, hw]
      repeat refine And.intro (by first | omega | (simp; done) | (simp; omega)) ?_
      exact ⟨i + 1, id, ⟨hi', e1.trans (w1_no hi' h2)⟩, by simp only []; omega, by simp [SLe, SLe0, convTm, convHp, convB, conv, conv0, convL, lkT, lkH, clean]⟩
  · have hie : i = H.length := by simp at h; omega
    have hz := e1.trans (w1_end (q := q) (show ¬ i < H.length by omega))
    simp only [V_seq, V_ret, V_exit, V_region, W_nil, W_cons, effOp2, KN_seq, KXr_nil, KXe_nil, KXe_seq, KXe_block, KXe_back, QE, effOp, effPure, pureV, ofC, strip, lkT, lkH, ISt.app, opI, gO, gB, allB, gval, wrapG, dstOK, setD, clean, Gives, Ideal.Fin, conv, conv0, Op.operands, reduceIte, reduceCtorEq, Nat.reduceLT, Nat.reduceEqDiff, and_self, implies_true, List.nil_append, List.cons_append, hN]
def sp_impl_witness_n : PSpec := ⟨fun xs => match xs with | [.sl 2 Hes, .agg [.num .i64 q1, .num .i64 q2]] => isPs Hes ∧ ((fun (H : List Pt) (q : Pt) => SmL H) (toPs Hes) (q1, q2)) ∧ ((fun (H : List Pt) (q : Pt) => Sm q) (toPs Hes) (q1, q2)) ∧ ((fun (H : List Pt) (q : Pt) => witP H q = []) (toPs Hes) (q1, q2)) | _ => False, fun xs => match xs with | [.sl _ Hes, .agg [.num _ q1, .num _ q2]] => (fun (H : List Pt) (q : Pt) => .nils) (toPs Hes) (q1, q2) | _ => .junk, false⟩
theorem gk_impl_witness_n : ∀ args, sp_impl_witness_n.pre args → ICall Try.prog 19 args (sp_impl_witness_n.val args) := by
  intro args h
  unfold sp_impl_witness_n at h ⊢; simp only at h ⊢; split at h
  · obtain ⟨h0, h1, h2, h3⟩ := h
    obtain ⟨l0, rfl⟩ := isP_ex h0
    try simp only [toPs_enc] at *
    exact c_impl_witness_n _ (_, _) h1 h2 h3
  · exact h.elim
theorem en_impl_witness_n : Enters Try.prog 19 := enters_of Try.func19 (by kernel_rfl) rfl

def g_impl_witness_v : List (Nat × PSpec) := [(35, sp_impl_inTriangle)]
theorem gok_impl_witness_v : GOK Try.prog g_impl_witness_v := gok_cons gk_impl_inTriangle en_impl_inTriangle (gok0)
theorem lk_impl_witness_v_impl_inTriangle : lkG g_impl_witness_v 35 = sp_impl_inTriangle := rfl
def h_impl_witness_v : List (Nat × HSpec) := []
theorem hok_impl_witness_v : HOK Try.prog h_impl_witness_v := hok0
theorem c_impl_witness_v (H : List Pt) (q : Pt) (hm : SmL H) (hq : Sm q) : ICallF Try.prog 19 [.sl 2 (encPs H), encP q] (.sl 1 (encI (witP H q))) := by
  by_cases hf : witP H q = []
  · rw [hf]
    exact icallF_nils (c_impl_witness_n H q hm hq hf)
  · have hlen : 3 = (witP H q).length := (wit_three hf).symm
    exact icallF_ref (c_impl_witness H q hm hq hf) (by rw [len_encI]; exact hlen) (noSl_encI _)
def sp_impl_witness_v : PSpec := ⟨fun xs => match xs with | [.sl 2 Hes, .agg [.num .i64 q1, .num .i64 q2]] => isPs Hes ∧ ((fun (H : List Pt) (q : Pt) => SmL H) (toPs Hes) (q1, q2)) ∧ ((fun (H : List Pt) (q : Pt) => Sm q) (toPs Hes) (q1, q2)) | _ => False, fun xs => match xs with | [.sl _ Hes, .agg [.num _ q1, .num _ q2]] => (fun (H : List Pt) (q : Pt) => .sl 1 (encI (witP H q))) (toPs Hes) (q1, q2) | _ => .junk, true⟩
theorem gk_impl_witness_v : ∀ args, sp_impl_witness_v.pre args → ICallF Try.prog 19 args (sp_impl_witness_v.val args) ∧ ∀ id, (sp_impl_witness_v.val args).ment id = false := by
  intro args h
  unfold sp_impl_witness_v at h ⊢; simp only at h ⊢; split at h
  · obtain ⟨h0, h1, h2⟩ := h
    obtain ⟨l0, rfl⟩ := isP_ex h0
    try simp only [toPs_enc] at *
    exact ⟨c_impl_witness_v _ (_, _) h1 h2, fun id => rfl⟩
  · exact h.elim
theorem en_impl_witness_v : Enters Try.prog 19 := enters_of Try.func19 (by kernel_rfl) rfl

def g_spec_witness : List (Nat × PSpec) := [(28, sp_spec_inTriangle)]
theorem gok_spec_witness : GOK Try.prog g_spec_witness := gok_cons gk_spec_inTriangle en_spec_inTriangle (gok0)
theorem lk_spec_witness_spec_inTriangle : lkG g_spec_witness 28 = sp_spec_inTriangle := rfl
def h_spec_witness : List (Nat × HSpec) := []
theorem hok_spec_witness : HOK Try.prog h_spec_witness := hok0
theorem c_spec_witness (H : List Pt) (q : Pt) (hm : SmL H) (hq : Sm q) : ICall Try.prog 15 [.sl 2 (encPs H), encP q] (.sl 1 (encI (witP H q))) := by
  refine icall_V (G := g_spec_witness) (H := []) [(10, [(0, 13), (1, 13), (2, 13), (4, 13), (5, 13), (6, 13), (8, 13), (9, 13), (10, 13)])] tabOK mixed gok_spec_witness hok_spec_witness Try.func15 rfl Try.ntmps15 Try.results15 rfl (by kernel_rfl) fun F hN hlen => ?_
  have hl := hlen 0 2 _ rfl
  have el := len_encPs H
  rw [el] at hl
  simp only [V_seq, V_block, V_region, W_nil, W_cons, effOp2, KN_seq, effOp, effPure, effNew, effBox, skipE, pureV, solid, IV.cells, ofC, strip, lkT, ISt.app, opI, gO, gB, allB, gval, wrapG, dstOK, setD, mentTm, mentHp, IV.ment, IV.mentL, oneI, enumT, Op.operands, reduceIte, reduceCtorEq, cond_true, Bool.or_false, Bool.and_true, Nat.reduceLT, Nat.zero_add, true_and, and_self, implies_true, List.nil_append, List.cons_append, List.append_nil, List.all_cons, List.all_nil, hN, encP]
  repeat refine And.intro (by first | omega | (simp; done) | (simp; omega)) ?_
  refine V_loop (α := Nat) ⟨tabOK, mixed, gok_spec_witness.toF F, hok_spec_witness⟩ (by kernel_rfl) (fun i => i ≤ H.length ∧ witP H q = w1 H q i) (fun i => ⟨[(5, .num .i64 i), (0, .sl 2 (encPs H)), (3, .ptr 3 0)], [(3, some (.box 38 [.num .i64 q.1, .num .i64 q.2]))]⟩) (fun i => H.length - i) 0 id ⟨Nat.zero_le _, rfl⟩ (by simp [SLe, SLe0, convTm, convHp, convB, conv, conv0, convL, lkT, lkH, clean]) ?_
  rintro i ⟨hi, e1⟩
  simp only [V_seq, V_region, V_cond, W_nil, W_cons, effOp2, KN_seq, asB, effOp, effPure, pureV, binV, lenV, strip, lkT, ISt.app, opI, gO, gB, allB, gval, wrapG, dstOK, setD, Op.operands, Call.operands, List.append_toArray, reduceIte, reduceCtorEq, Nat.reduceLT, Nat.reduceEqDiff, ne_eq, not_false_eq_true, true_and, and_self, implies_true, List.nil_append, List.cons_append, tab26, hN, el]
  refine brW_some (fun h => ?_) (fun h => ?_)
  · have hi' : i < H.length := by simpa using h
    have hw := wr_succ hi' hl
    have g0 := getD_encPs hi'
    simp only [V_seq, V_skip, V_block, V_region, W_nil, W_cons, effOp2, KN_seq, effOp, effPure, pureV, strip, lkT, ISt.app, opI, gO, gB, allB, gval, wrapG, dstOK, setD, Op.operands, reduceIte, reduceCtorEq, Nat.reduceLT, Nat.reduceEqDiff, true_and, and_self, implies_true, List.nil_append, List.cons_append, hN]
    repeat refine And.intro (by first | omega | (simp; done) | (simp; omega)) ?_
    refine V_loop (α := Nat) ⟨tabOK, mixed, gok_spec_witness.toF F, hok_spec_witness⟩ (by kernel_rfl) (fun k => k ≤ H.length ∧ w2 H q i i = w2 H q i k) (fun k => ⟨[(6, .num .i64 k), (5, .num .i64 i),  (0, .sl 2 (encPs H)), (3, .ptr 3 0)], [(3, some (.box 38 [.num .i64 q.1, .num .i64 q.2]))]⟩) (fun k => H.length - k) i id ⟨hi, rfl⟩ (by simp [SLe, SLe0, convTm, convHp, convB, conv, conv0, convL, lkT, lkH, clean]) ?_
    rintro k ⟨hk, e2⟩
    simp only [V_seq, V_region, V_cond, W_nil, W_cons, effOp2, KN_seq, asB, effOp, effPure, pureV, binV, lenV, strip, lkT, ISt.app, opI, gO, gB, allB, gval, wrapG, dstOK, setD, Op.operands, Call.operands, List.append_toArray, reduceIte, reduceCtorEq, Nat.reduceLT, Nat.reduceEqDiff, ne_eq, not_false_eq_true, true_and, and_self, implies_true, List.nil_append, List.cons_append, tab26, hN, el]
    refine brW_some (fun h => ?_) (fun h => ?_)
    · have hk' : k < H.length := by simpa using h
      have hw2 := wr_succ hk' hl
      have g1 := getD_encPs hk'
      simp only [V_seq, V_skip, V_block, V_region, W_nil, W_cons, effOp2, KN_seq, effOp, effPure, pureV, strip, lkT, ISt.app, opI, gO, gB, allB, gval, wrapG, dstOK, setD, Op.operands, reduceIte, reduceCtorEq, Nat.reduceLT, Nat.reduceEqDiff, true_and, and_self, implies_true, List.nil_append, List.cons_append, hN]
      repeat refine And.intro (by first | omega | (simp; done) | (simp; omega)) ?_
      refine V_loop (α := Nat) ⟨tabOK, mixed, gok_spec_witness.toF F, hok_spec_witness⟩ (by kernel_rfl) (fun n => n ≤ H.length ∧ w3 H q i k k = w3 H q i k n) (fun n => ⟨[(7, .num .i64 n), (6, .num .i64 k), (5, .num .i64 i),  (0, .sl 2 (encPs H)), (3, .ptr 3 0)], [(3, some (.box 38 [.num .i64 q.1, .num .i64 q.2]))]⟩) (fun n => H.length - n) k id ⟨hk, rfl⟩ (by simp [SLe, SLe0, convTm, convHp, convB, conv, conv0, convL, lkT, lkH, clean]) ?_
      rintro n ⟨hn, e3⟩
      simp only [V_seq, V_region, V_cond, W_nil, W_cons, effOp2, KN_seq, asB, effOp, effPure, pureV, binV, lenV, strip, lkT, ISt.app, opI, gO, gB, allB, gval, wrapG, dstOK, setD, Op.operands, Call.operands, List.append_toArray, reduceIte, reduceCtorEq, Nat.reduceLT, Nat.reduceEqDiff, ne_eq, not_false_eq_true, true_and, and_self, implies_true, List.nil_append, List.cons_append, tab26, hN, el]
      refine brW_some (fun h => ?_) (fun h => ?_)
      · have hn' : n < H.length := by simpa using h
        have hw3 := wr_succ hn' hl
        have g2 := getD_encPs hn'
        have s0 := hm.at i
        have s1 := hm.at k
        have s2 := hm.at n
        have hY : inTri (pAt H i) (pAt H k) (pAt H n) q = true → witP H q = [(i : Int), (k : Int), (n : Int)] := fun ht => wit_found hi' hk' hn' e1 e2 e3 ht
        have hX : inTri (pAt H i) (pAt H k) (pAt H n) q = false → w3 H q i k k = w3 H q i k (n + 1) := fun ht => e3.trans (w3_no hn' ht)
        obtain ⟨a, ha⟩ : ∃ a, pAt H i = a := ⟨_, rfl⟩
        obtain ⟨b, hb⟩ : ∃ b, pAt H k = b := ⟨_, rfl⟩
        obtain ⟨c, hc⟩ : ∃ c, pAt H n = c := ⟨_, rfl⟩
        rw [ha] at g0 s0 hY hX
        rw [hb] at g1 s1 hY hX
        rw [hc] at g2 s2 hY hX
        cases ht : inTri a b c q with
        | true =>
          have hv := hY ht
          (simp only [V_seq, V_skip, V_ret, V_block, V_region, V_draw, V_cond, brW_true, drawW, WS_nil, pairsOf, W_nil, W_cons, effOp2, effOp3, WI_nil, WI_cons, KN_seq, KXr_nil, KXr_seq, KXr_block, KXr_back, QE, dynOK, indB, farB, freshB, freshK, freshK1, heapy, asB, effOp, effPure, effNew, effBuildSlice, effFrz, frz, tmpsOf, effCall, giveUp, hasAll, skipE, pureV, partV, eltV, loadV, iaddrV, strip, lkT, lkH, ISt.app, opI, gO, gB, allB, gval, wrapG, dstOK, setD, mentTm, mentHp, IV.ment, IV.mentL, partsL, eltsI, eltI, noId', lendV, lendP, lent, lentP, idsV, idsL, lkHS, flat, clean, callArgs, callFn, allLent, Gives, Ideal.Fin, conv, conv0, Op.operands, Call.operands, List.append_toArray, reduceIte, reduceCtorEq, cond_true, cond_false, Bool.or_false, Bool.and_true, Bool.and_eq_true, Bool.not_true, Bool.not_false, Nat.reduceAdd, Nat.reduceMul, Nat.reduceLT, Nat.reduceLeDiff, Nat.reduceEqDiff, Nat.reduceBEq, Nat.zero_add, ne_eq, not_false_eq_true, true_and, and_true, and_false, and_self, implies_true, forall_const, List.map_cons, List.map_nil, List.nil_append, List.cons_append, List.append_nil, Option.some.injEq, List.getD_cons_zero, List.getD_cons_succ, List.length_cons, List.length_nil, List.take_succ_cons, List.take_zero, List.take_nil, List.drop_zero, ex_clo, or_self, tab3, tab26, tab35, tab38, hN, pe, Int.toNat_natCast, lk_spec_witness_spec_inTriangle, sp_spec_inTriangle, el, g0, g1, g2, s0, s1, s2, hq, ht]; (repeat refine And.intro (by first | omega | (simp; done) | (simp; omega)) ?_); exact ⟨_, _, rfl, by simp, by rw [hv]; rfl, by simp⟩)
        | false =>
          have hst := hX ht
          simp only [V_seq, V_skip, V_block, V_region, V_draw, V_cond, brW_false, drawW, WS_nil, pairsOf, W_nil, W_cons, effOp2, effOp3, WI_nil, WI_cons, KN_seq, KN_block, KN_back, dynOK, indB, farB, freshB, freshK, freshK1, heapy, asB, effOp, effPure, effCall, giveUp, hasAll, pureV, binV, partV, eltV, loadV, iaddrV, ofC, strip, lkT, lkH, ISt.app, opI, gO, gB, allB, gval, wrapG, dstOK, setD, mentTm, mentHp, IV.ment, lendV, lendP, lent, lentP, idsV, idsL, lkHS, flat, clean, callArgs, callFn, allLent, Op.operands, Call.operands, List.append_toArray, reduceIte, reduceCtorEq, cond_true, cond_false, Bool.or_false, Bool.and_true, Bool.and_eq_true, Bool.not_true, Bool.not_false, Nat.reduceAdd, Nat.reduceLT, Nat.reduceLeDiff, Nat.reduceEqDiff, Nat.reduceBEq, Nat.zero_add, ne_eq, not_false_eq_true, true_and, and_true, and_false, and_self, implies_true, forall_const, List.map_cons, List.map_nil, List.nil_append, List.cons_append, List.append_nil, List.getD_cons_zero, List.getD_cons_succ, List.length_cons, List.length_nil, List.take_succ_cons, List.take_zero, List.take_nil, List.drop_zero, ex_clo, or_self, tab26, tab38, hN, pe, Int.toNat_natCast, lk_spec_witness_spec_inTriangle, sp_spec_inTriangle, el, g0, g1, g2, s0, s1, s2, hq, ht, hw3]
          repeat refine And.intro (by first | omega | (simp; done) | (simp; omega)) ?_
          exact ⟨n + 1, id, ⟨hn', hst⟩, by simp only []; omega, by simp [SLe, SLe0, convTm, convHp, convB, conv, conv0, convL, lkT, lkH, clean]⟩
      · have hne : n = H.length := by simp at h; omega
        have h3 : w3 H q i k k = [] := by rw [e3, w3_end (by omega)]
        simp only [V_seq, V_ret, V_exit, V_region, W_nil, W_cons, effOp2, KN_seq, KN_block, KN_back, KXr_nil, KXe_nil, KXe_seq, KXe_block, KXe_back, QE, effOp, effPure, effNew, effBuildSlice, effFrz, frz, tmpsOf, skipE, pureV, binV, ofC, strip, lkT, lkH, ISt.app, opI, gO, gB, allB, gval, wrapG, dstOK, setD, mentTm, mentHp, IV.ment, IV.mentL, partsL, eltsI, Gives, Ideal.Fin, conv, conv0, Op.operands, reduceIte, reduceCtorEq, cond_true, Bool.or_false, Nat.reduceMul, Nat.reduceLT, Nat.reduceLeDiff, Nat.reduceEqDiff, Nat.reduceBEq, Nat.add_zero, ne_eq, not_false_eq_true, true_and, and_self, implies_true, List.nil_append, List.cons_append, List.append_nil, Option.some.injEq, List.length_nil, List.take_zero, List.drop_zero, tab3, tab35, hN, hw2]
        repeat refine And.intro (by first | omega | (simp; done) | (simp; omega)) ?_
        exact ⟨k + 1, id, ⟨hk', e2.trans (w2_no hk' h3)⟩, by simp only []; omega, by simp [SLe, SLe0, convTm, convHp, convB, conv, conv0, convL, lkT, lkH, clean]⟩
    · have hke : k = H.length := by simp at h; omega
      have h2 : w2 H q i i = [] := by rw [e2, w2_end (by omega)]
      simp only [V_seq, V_ret, V_exit, V_region, W_nil, W_cons, effOp2, KN_seq, KN_block, KN_back, KXr_nil, KXe_nil, KXe_seq, KXe_block, KXe_back, QE, effOp, effPure, effNew, effBuildSlice, effFrz, frz, tmpsOf, skipE, pureV, binV, ofC, strip, lkT, lkH, ISt.app, opI, gO, gB, allB, gval, wrapG, dstOK, setD, mentTm, mentHp, IV.ment, IV.mentL, partsL, eltsI, Gives, Ideal.Fin, conv, conv0, Op.operands, reduceIte, reduceCtorEq, cond_true, Bool.or_false, Nat.reduceMul, Nat.reduceLT, Nat.reduceLeDiff, Nat.reduceEqDiff, Nat.reduceBEq, Nat.add_zero, ne_eq, not_false_eq_true, true_and, and_self, implies_true, List.nil_append, List.cons_append, List.append_nil, Option.some.injEq, List.length_nil, List.take_zero, List.drop_zero, tab3, tab35, hN, hw]
      repeat refine And.intro (by first | omega | (simp; done) | (simp; omega)) ?_
      exact ⟨i + 1, id, ⟨hi', e1.trans (w1_no hi' h2)⟩, by simp only []; omega, by simp [SLe, SLe0, convTm, convHp, convB, conv, conv0, convL, lkT, lkH, clean]⟩
  · have hie : i = H.length := by simp at h; omega
    have hz := e1.trans (w1_end (q := q) (show ¬ i < H.length by omega))
    (simp only [V_seq, V_ret, V_exit, V_region, W_nil, W_cons, effOp2, KN_seq, KXr_nil, KXe_nil, KXe_seq, KXe_block, KXe_back, QE, effOp, effPure, effNew, effBuildSlice, effFrz, frz, tmpsOf, skipE, pureV, strip, lkT, lkH, ISt.app, opI, gO, gB, allB, gval, wrapG, dstOK, setD, mentTm, mentHp, IV.ment, IV.mentL, partsL, eltsI, Gives, Ideal.Fin, conv, conv0, Op.operands, reduceIte, reduceCtorEq, cond_true, Bool.or_false, Nat.reduceMul, Nat.reduceLT, Nat.reduceLeDiff, Nat.reduceEqDiff, Nat.reduceBEq, Nat.add_zero, ne_eq, not_false_eq_true, true_and, and_self, implies_true, List.nil_append, List.cons_append, List.append_nil, Option.some.injEq, List.length_nil, List.take_zero, List.drop_zero, tab3, tab35, hN, hz]; exact ⟨_, _, rfl, by simp, rfl, by simp⟩)
def sp_spec_witness : PSpec := ⟨fun xs => match xs with | [.sl 2 Hes, .agg [.num .i64 q1, .num .i64 q2]] => isPs Hes ∧ ((fun (H : List Pt) (q : Pt) => SmL H) (toPs Hes) (q1, q2)) ∧ ((fun (H : List Pt) (q : Pt) => Sm q) (toPs Hes) (q1, q2)) | _ => False, fun xs => match xs with | [.sl _ Hes, .agg [.num _ q1, .num _ q2]] => (fun (H : List Pt) (q : Pt) => .sl 1 (encI (witP H q))) (toPs Hes) (q1, q2) | _ => .junk, false⟩
theorem gk_spec_witness : ∀ args, sp_spec_witness.pre args → ICall Try.prog 15 args (sp_spec_witness.val args) := by
  intro args h
  unfold sp_spec_witness at h ⊢; simp only at h ⊢; split at h
  · obtain ⟨h0, h1, h2⟩ := h
    obtain ⟨l0, rfl⟩ := isP_ex h0
    try simp only [toPs_enc] at *
    exact c_spec_witness _ (_, _) h1 h2
  · exact h.elim
theorem en_spec_witness : Enters Try.prog 15 := enters_of Try.func15 (by kernel_rfl) rfl

end Go.Proofs.Ytiadicmnbjaknaa
