/- Contracts: chains of points. -/
import Derived.Test.YtiadicmnbjaknaaB8
set_option linter.unusedVariables false
set_option linter.unusedSimpArgs false
namespace Go.Proofs.Ytiadicmnbjaknaa
open Go Go.Ideal Go.Pl Go.Sort

theorem chainR_succ {l : List Pt} {i : Nat} (hi : i < l.length) : chainR (l.take (i + 1)) = pAt l i :: popP (chainR (l.take i)) (pAt l i) := by
  rw [chainR, take_succ_g (d := (0, 0)) hi, List.foldl_append]
  rfl
theorem popP_mem {st : List Pt} {p v : Pt} (h : v ∈ popP st p) : v ∈ st := (popP_suffix st p).subset h
theorem chainR_mem : ∀ (l st : List Pt) (v : Pt), v ∈ l.foldl stepP st → v ∈ st ∨ v ∈ l
  | [], st, v, h => .inl h
  | p :: l, st, v, h => by
    rcases chainR_mem l (stepP st p) v h with h | h
    · rcases List.mem_cons.1 h with rfl | h
      · exact .inr (by simp)
      · exact .inl (popP_mem h)
    · exact .inr (by simp [h])
theorem chainP_mem {l : List Pt} {v : Pt} (h : v ∈ chainP l) : v ∈ l := by
  rcases chainR_mem l [] v (by simpa [chainP, chainR] using h) with h | h
  · simp at h
  · exact h
theorem pop_len (st : List Pt) (p : Pt) : (popP st p).length ≤ st.length := (popP_suffix st p).length_le
theorem fold_step_len : ∀ (l st : List Pt), (l.foldl stepP st).length ≤ st.length + l.length
  | [], st => by simp
  | p :: l, st => by
    have := fold_step_len l (stepP st p)
    have := pop_len st p
    simp only [List.foldl_cons, stepP, List.length_cons] at *
    omega
theorem chainR_len (l : List Pt) : (chainR l).length ≤ l.length := by have := fold_step_len l []; simpa [chainR] using this
theorem chainP_len (l : List Pt) : (chainP l).length ≤ l.length := by simpa [chainP] using chainR_len l
theorem at_rev0 (b : Pt) (r : List Pt) : pAt (b :: r).reverse r.length = b := by simp [List.getD]
theorem at_rev2 (b a : Pt) (r : List Pt) : pAt (b :: a :: r).reverse (r.length + 1) = b := by simp [List.getD]
theorem at_rev1 (b a : Pt) (r : List Pt) : pAt (b :: a :: r).reverse r.length = a := by simp [List.getD]

def g_spec_chain : List (Nat × PSpec) := [(38, sp_spec_cross)]
theorem gok_spec_chain : GOK Try.prog g_spec_chain := gok_cons gk_spec_cross en_spec_cross (gok0)
theorem lk_spec_chain_spec_cross : lkG g_spec_chain 38 = sp_spec_cross := rfl
def h_spec_chain : List (Nat × HSpec) := []
theorem hok_spec_chain : HOK Try.prog h_spec_chain := hok0
theorem c_spec_chain (l : List Pt) (hm : SmL l) (hsz : l.length ≤ 1000000) : HCall Try.prog 26 [.sl 2 (encPs l)] (sm ([])) (.ref 0 0 (chainP l).length true) (sm ([(0, .arr 2 38 (encPs (chainP l)))])) := by
  refine hcall_V (G := g_spec_chain) (H := []) [(5, [(0, 20), (1, 20), (2, 20), (4, 20), (5, 20), (6, 20), (7, 20), (8, 20), (10, 20), (11, 20), (12, 20), (13, 20), (14, 20), (16, 20), (17, 20), (18, 20), (20, 22)])] tabOK mixed gok_spec_chain hok_spec_chain Try.func26 rfl Try.ntmps26 Try.results26 rfl (by kernel_rfl) fun F hN hlen => ?_
  simp only [sm]
  have el := len_encPs l
  simp only [V_seq, V_block, V_region, W_nil, W_cons, effOp2, KN_seq, effOp, effPure, effNew, effBuildSlice, effFrz, frz, tmpsOf, skipE, pureV, ofC, strip, lkT, ISt.app, opI, gO, gB, allB, gval, wrapG, dstOK, setD, mentTm, mentHp, IV.ment, partsL, eltsI, enumT, Op.operands, reduceIte, reduceCtorEq, cond_true, Bool.or_false, Nat.reduceMul, Nat.reduceLT, Nat.reduceLeDiff, Nat.reduceEqDiff, ne_eq, not_false_eq_true, true_and, and_self, implies_true, List.nil_append, List.cons_append, List.append_nil, List.length_nil, tab26, tab38, hN]
  refine V_loop (α := Nat) ⟨tabOK, mixed, gok_spec_chain.toF F, hok_spec_chain⟩ (by kernel_rfl) (fun i => i ≤ l.length) (fun i => ⟨[(4, .num .i64 i), (3, .ref 5 0 (chainR (l.take i)).length true), (0, .sl 2 (encPs l))], [(5, some (.arr 2 38 (encPs (chainR (l.take i)).reverse)))]⟩) (fun i => l.length - i) 0 id (Nat.zero_le _)
    (by simp [SLe, SLe0, convTm, convHp, convB, conv, conv0, lkT, lkH, clean, chainR, encPs]) ?_
  intro i hi
  have hc0 := chainR_len (l.take i)
  rw [List.length_take] at hc0
  simp only [V_seq, V_region, V_cond, W_nil, W_cons, effOp2, KN_seq, asB, effOp, effPure, pureV, binV, lenV, strip, lkT, ISt.app, opI, gO, gB, allB, gval, wrapG, dstOK, setD, Op.operands, Call.operands, List.append_toArray, reduceIte, reduceCtorEq, Nat.reduceLT, Nat.reduceEqDiff, ne_eq, not_false_eq_true, true_and, and_self, implies_true, List.nil_append, List.cons_append, tab26, hN, el]
  refine brW_some (fun h => ?_) (fun h => ?_)
  · have hi' : i < l.length := by simpa using h
    have g0 := getD_encPs hi'
    have hw := wr_succ hi' (by rw [maxLen_eq]; omega)
    have hsi := hm.at i
    have hcm : SmL (chainR (l.take i)) := fun v hv => by
      rcases chainR_mem _ [] v hv with h | h
      · simp at h
      · exact hm v (List.mem_of_mem_take h)
    have hstep := chainR_succ hi'
    generalize chainR (l.take i) = st at *
    simp only [V_seq, V_skip, V_block, KN_seq]
    refine V_loop (α := List Pt) ⟨tabOK, mixed, gok_spec_chain.toF F, hok_spec_chain⟩ (by kernel_rfl) (fun s => popP s (pAt l i) = popP st (pAt l i) ∧ SmL s ∧ s.length ≤ l.length) (fun s => ⟨[(4, .num .i64 i), (3, .ref 5 0 s.length true), (0, .sl 2 (encPs l))], [(5, some (.arr 2 38 (encPs s.reverse)))]⟩) (fun s => s.length) st id ⟨rfl, hcm, by omega⟩ (by simp [SLe, SLe0, convTm, convHp, convB, conv, conv0, lkT, lkH, clean]) ?_
    rintro s ⟨hpop, hsm, hsl⟩
    have hx : ∃ k ty es, IBlk.arr 2 38 (encPs s.reverse) = IBlk.arr k ty es := ⟨_, _, _, rfl⟩
    have es := len_encPs s.reverse
    rw [List.length_reverse] at es
    have hfin : popP st (pAt l i) = s → encPs (chainR (l.take (i + 1))).reverse = (encPs s.reverse).take s.length ++ [IV.agg [.num .i64 (pAt l i).1, .num .i64 (pAt l i).2]] := by
      intro hs
      rw [hstep, hs, List.reverse_cons, ← encPs_app, List.take_of_length_le (by omega)]
      rfl
    match s, hpop, hsm, hsl, hx, es, hfin with
    | [], hpop, hsm, hsl, hx, es, hfin =>
      have d1 : decide ((1 : Int) < ((0 : Nat) : Int)) = false := rfl
      simp only [List.length_nil] at hsl es hfin
      have n0 : encPs ([] : List Pt).reverse = [] := rfl
      have n1 : ∀ k, ([] : List IV).getD k .junk = .junk := fun k => rfl
      rw [n0] at hx es hfin
      simp only [V_seq, V_ret, V_exit, V_region, V_draw, V_cond, brW_false, drawW, WS_nil, pairsOf, W_nil, W_cons, effOp2, effOp3, WI_nil, WI_cons, KN_seq, KN_block, KN_back, KXr_nil, KXe_nil, KXe_seq, KXe_block, KXe_back, QE, dynOK, indB, farB, freshB, freshK, freshK1, heapy, asB, effOp, effPure, effPick, effNew, effBuildSlice, effFrz, frz, tmpsOf, effAppend, effZeros, effCall, giveUp, hasAll, Option.isSome_some, skipE, pureV, pickV, srcV, refId, binV, partV, eltV, loadV, iaddrV, lenV, ofC, strip, lkT, lkH, ISt.app, opI, gO, gB, allB, gval, wrapG, dstOK, setD, mentTm, mentHp, IV.ment, IV.mentL, partsL, eltsI, eltI, oneI, noId', lendV, lendP, lent, lentP, idsV, idsL, lkHS, flat, clean, callArgs, callFn, allLent, conv, conv0, Op.operands, Call.operands, List.append_toArray, reduceIte, reduceCtorEq, cond_true, cond_false, Bool.or_false, Bool.or_true, Bool.and_true, Bool.and_eq_true, Bool.not_false, Nat.reduceAdd, Nat.reduceMul, Nat.reduceLT, Nat.reduceLeDiff, Nat.reduceEqDiff, Nat.reduceBEq, Nat.zero_add, ne_eq, not_false_eq_true, true_and, and_true, false_and, and_false, and_self, false_implies, implies_true, forall_const, List.map_cons, List.map_nil, List.nil_append, List.cons_append, List.append_nil, List.all_cons, List.all_nil, Option.some.injEq, Option.bind_some, List.getElem?_cons_zero, List.getElem?_cons_succ, List.getD_cons_zero, List.getD_cons_succ, List.length_cons, List.length_nil, List.take_succ_cons, List.take_zero, List.take_nil, List.drop_zero, ex_clo, bft, or_true, Bool.false_eq_true, tab26, tab38, hN, Int.toNat_natCast, FinH, resA, resV, SLe, SLe0, convTm, convHp, convB, lk_spec_chain_spec_cross, sp_spec_cross, el, d1, g0, n0, n1, hw]
      have hs : popP st (pAt l i) = [] := by rw [← hpop]; rfl
      have hcl : (chainR (l.take (i + 1))).length = 1 := by rw [hstep, hs]; rfl
      have hf := hfin hs
      repeat refine And.intro (by first | omega | (simp; done) | (simp; omega)) ?_
      refine ⟨i + 1, fun x => if x = 5 then 46 else x, by simp only []; omega, by simp only []; omega, ?_⟩
      simp only [SLe, SLe0, convTm, convHp, convB, conv, conv0, lkT, lkH, clean, hcl, hf, if_true]
      simp
      omega
    | [b], hpop, hsm, hsl, hx, es, hfin =>
      have d1 : decide ((1 : Int) < ((1 : Nat) : Int)) = false := rfl
      simp only [List.length_cons, List.length_nil] at hsl es hfin
      have n0 : encPs [b].reverse = [.agg [.num .i64 b.1, .num .i64 b.2]] := rfl
      have n1 : (IntKind.i64.wrap (((1 : Nat) : Int) - 2)).toNat = 0 := by decide
      have n2 : IntKind.i64.wrap (((1 : Nat) : Int) - 1) = ((0 : Nat) : Int) := by decide
      rw [n0] at hx es hfin
      simp only [V_seq, V_ret, V_exit, V_region, V_draw, V_cond, brW_false, drawW, WS_nil, pairsOf, W_nil, W_cons, effOp2, effOp3, WI_nil, WI_cons, KN_seq, KN_block, KN_back, KXr_nil, KXe_nil, KXe_seq, KXe_block, KXe_back, QE, dynOK, indB, farB, freshB, freshK, freshK1, heapy, asB, effOp, effPure, effPick, effNew, effBuildSlice, effFrz, frz, tmpsOf, effAppend, effZeros, effCall, giveUp, hasAll, Option.isSome_some, skipE, pureV, pickV, srcV, refId, binV, partV, eltV, loadV, iaddrV, lenV, ofC, strip, lkT, lkH, ISt.app, opI, gO, gB, allB, gval, wrapG, dstOK, setD, mentTm, mentHp, IV.ment, IV.mentL, partsL, eltsI, eltI, oneI, noId', lendV, lendP, lent, lentP, idsV, idsL, lkHS, flat, clean, callArgs, callFn, allLent, conv, conv0, Op.operands, Call.operands, List.append_toArray, reduceIte, reduceCtorEq, cond_true, cond_false, Bool.or_false, Bool.or_true, Bool.and_true, Bool.and_eq_true, Bool.not_false, Nat.reduceAdd, Nat.reduceMul, Nat.reduceLT, Nat.reduceLeDiff, Nat.reduceEqDiff, Nat.reduceBEq, Nat.add_zero, Nat.zero_add, ne_eq, not_false_eq_true, true_and, and_true, false_and, and_false, and_self, false_implies, implies_true, forall_const, List.map_cons, List.map_nil, List.nil_append, List.cons_append, List.append_nil, List.all_cons, List.all_nil, Option.some.injEq, Option.bind_some, List.getElem?_cons_zero, List.getElem?_cons_succ, List.getD_cons_zero, List.getD_cons_succ, List.length_cons, List.length_nil, List.take_succ_cons, List.take_zero, List.take_nil, List.drop_zero, ex_clo, bft, or_self, Bool.false_eq_true, tab26, tab38, hN, pe, Int.toNat_natCast, FinH, resA, resV, SLe, SLe0, convTm, convHp, convB, lk_spec_chain_spec_cross, sp_spec_cross, el, d1, g0, n0, n1, n2, hw]
      have hs : popP st (pAt l i) = [b] := by rw [← hpop]; rfl
      have hcl : (chainR (l.take (i + 1))).length = 2 := by rw [hstep, hs]; rfl
      have hf := hfin hs
      repeat refine And.intro (by first | omega | (simp; done) | (simp; omega)) ?_
      refine ⟨i + 1, fun x => if x = 5 then 46 else x, by simp only []; omega, by simp only []; omega, ?_⟩
      simp only [SLe, SLe0, convTm, convHp, convB, conv, conv0, lkT, lkH, clean, hcl, hf, if_true]
      simp
      omega
    | b :: a :: r, hpop, hsm, hsl, hx, es, hfin =>
      simp only [List.length_cons] at hsl es hfin
      have d1 : decide ((1 : Int) < ((r.length + 1 + 1 : Nat) : Int)) = true := by simp only [decide_eq_true_eq]; omega
      have w2 : IntKind.i64.wrap (((r.length + 1 + 1 : Nat) : Int) - 2) = ((r.length : Nat) : Int) := by rw [wr (by omega) (by omega)]; omega
      have w1 : IntKind.i64.wrap (((r.length + 1 + 1 : Nat) : Int) - 1) = ((r.length + 1 : Nat) : Int) := by rw [wr (by omega) (by omega)]; omega
      have g1 := getD_encPs (l := (b :: a :: r).reverse) (i := r.length) (by simp)
      have g2 := getD_encPs (l := (b :: a :: r).reverse) (i := r.length + 1) (by simp)
      rw [at_rev1] at g1
      rw [at_rev2] at g2
      have sb := hsm b (by simp)
      have sa := hsm a (by simp)
      simp only [V_seq, V_draw, V_cond, drawW, WS_nil, pairsOf, W_nil, W_cons, effOp2, effOp3, WI_nil, WI_cons, KN_seq, dynOK, indB, farB, freshB, freshK, freshK1, heapy, asB, effOp, effPure, effPick, effCall, giveUp, hasAll, pureV, pickV, binV, partV, eltV, loadV, iaddrV, lenV, ofC, strip, lkT, lkH, ISt.app, opI, gO, gB, allB, gval, wrapG, dstOK, setD, mentTm, mentHp, IV.ment, lendV, lendP, lent, lentP, idsV, idsL, lkHS, flat, clean, callArgs, callFn, allLent, Op.operands, Call.operands, List.append_toArray, reduceIte, reduceCtorEq, cond_true, cond_false, Bool.or_false, Bool.and_true, Bool.and_eq_true, Bool.not_true, Bool.not_false, Nat.reduceAdd, Nat.reduceLT, Nat.reduceLeDiff, Nat.reduceEqDiff, Nat.reduceBEq, Nat.zero_add, ne_eq, not_false_eq_true, beq_self_eq_true, true_and, and_true, and_false, and_self, implies_true, forall_const, List.map_cons, List.map_nil, List.nil_append, List.cons_append, List.append_nil, Option.bind_some, List.getElem?_cons_zero, List.getElem?_cons_succ, List.getD_cons_zero, List.getD_cons_succ, List.length_cons, List.length_nil, List.take_succ_cons, List.take_zero, List.take_nil, List.drop_zero, ex_clo, or_self, Bool.true_eq_false, tab26, tab38, hN, pe, Int.toNat_natCast, lk_spec_chain_spec_cross, sp_spec_cross, el, d1, w1, w2, g0, g1, g2, sa, sb, hsi]
      repeat refine And.intro (by first | omega | (simp; done) | (simp; omega)) ?_
      refine brW_some (fun h => ?_) (fun h => ?_)
      · have ht : turn a b (pAt l i) ≤ 0 := by simpa using h
        simp only [V_skip, V_block, V_region, W_nil, W_cons, effOp2, KN_seq, KN_block, KN_back, effOp, effPure, pureV, binV, sliceV, lenV, ofC, strip, lkT, lkH, ISt.app, opI, gO, gB, allB, gval, wrapG, dstOK, setD, Op.operands, Call.operands, List.append_toArray, Array.append_empty, Option.toArray_none, Option.toArray_some, reduceIte, reduceCtorEq, Nat.reduceLT, Nat.reduceEqDiff, ne_eq, not_false_eq_true, true_and, and_true, and_self, implies_true, forall_const, List.nil_append, List.cons_append, Option.map_some, Option.map_none, tab26, tab38, hN, Int.toNat_natCast, w1]
        repeat refine And.intro (by first | omega | (simp; done) | (simp; omega)) ?_
        refine ⟨a :: r, id, ⟨?_, fun v hv => hsm v (List.mem_cons_of_mem _ hv), by simp only [List.length_cons]; omega⟩, by simp only [List.length_cons]; omega, ?_⟩
        · rw [← hpop, popP, if_pos ht]
        · simp [SLe, SLe0, convTm, convHp, convB, conv, conv0, lkT, lkH, clean]
          rw [show r.reverse ++ [a, b] = (r.reverse ++ [a]) ++ [b] by simp, ← encPs_app (r.reverse ++ [a]) [b], List.take_left]
      · have ht : ¬ turn a b (pAt l i) ≤ 0 := by simpa using h
        simp only [V_seq, V_ret, V_exit, V_region, W_nil, W_cons, effOp2, KN_seq, KN_block, KN_back, KXr_nil, KXe_nil, KXe_seq, KXe_block, KXe_back, QE, effOp, effPure, effNew, effBuildSlice, effFrz, frz, tmpsOf, effAppend, effZeros, Option.isSome_some, skipE, pureV, srcV, refId, binV, partV, eltV, loadV, iaddrV, ofC, strip, lkT, lkH, ISt.app, opI, gO, gB, allB, gval, wrapG, dstOK, setD, mentTm, mentHp, IV.ment, IV.mentL, partsL, eltsI, eltI, oneI, noId', conv, conv0, Op.operands, reduceIte, reduceCtorEq, cond_true, Bool.or_false, Bool.and_true, Nat.reduceAdd, Nat.reduceMul, Nat.reduceLT, Nat.reduceLeDiff, Nat.reduceEqDiff, Nat.reduceBEq, Nat.zero_add, ne_eq, not_false_eq_true, true_and, and_true, and_false, and_self, implies_true, forall_const, List.map_cons, List.map_nil, List.nil_append, List.cons_append, List.append_nil, List.all_cons, List.all_nil, Option.some.injEq, List.getD_cons_zero, List.length_cons, List.length_nil, List.take_succ_cons, List.take_nil, List.drop_zero, tab26, tab38, hN, Int.toNat_natCast, FinH, resA, resV, SLe, SLe0, convTm, convHp, convB, el, g0, hw]
        have hs : popP st (pAt l i) = b :: a :: r := by rw [← hpop, popP, if_neg ht]
        have hcl : (chainR (l.take (i + 1))).length = r.length + 1 + 1 + 1 := by rw [hstep, hs]; rfl
        have hf := hfin hs
        repeat refine And.intro (by first | omega | (simp; done) | (simp; omega)) ?_
        refine ⟨i + 1, fun x => if x = 5 then 46 else x, by simp only []; omega, by simp only []; omega, ?_⟩
        simp only [SLe, SLe0, convTm, convHp, convB, conv, conv0, lkT, lkH, clean, hcl, if_true]
        simp
        refine ⟨take_eq_of ?_, fun x a1 a2 a3 => by omega⟩
        simpa using hf
  · have hie : i = l.length := by simp at h; omega
    subst hie
    have hcp : (chainR l).reverse = chainP l := rfl
    have hcl : (chainR l).length = (chainP l).length := by rw [← hcp, List.length_reverse]
    simp only [V_seq, V_ret, V_exit, V_region, W_nil, W_cons, effOp2, KN_seq, KXr_nil, KXe_nil, KXe_seq, KXe_block, KXe_back, QE, effOp, effPure, Option.isSome_some, pureV, strip, lkT, lkH, ISt.app, opI, gO, gB, allB, gval, wrapG, dstOK, setD, conv, conv0, Op.operands, reduceIte, reduceCtorEq, Nat.reduceLT, Nat.reduceEqDiff, true_and, and_true, and_self, implies_true, List.map_cons, List.map_nil, List.nil_append, List.cons_append, hN, FinH, resA, resV, SLe, SLe0, convTm, convHp, convB, List.take_length, hcp, hcl]
    exact ⟨fun x => if x = 0 then 5 else x, by simp [take_encPs]; omega⟩
def hs_spec_chain : HSpec := ⟨[true], fun xs hp => match xs, hp with | [.sl 2 es], [] => (isPs es) ∧ ((fun (l : List Pt) => SmL l) (toPs es)) ∧ ((fun (l : List Pt) => l.length ≤ 1000000) (toPs es)) | _, _ => False, fun xs hp => match xs, hp with | [.sl 2 es], [] => (fun (l : List Pt) => (.ref 0 0 (chainP l).length true : IV)) (toPs es) | _, _ => .junk, fun xs hp => match xs, hp with | [.sl 2 es], [] => (fun (l : List Pt) => ([(0, .arr 2 38 (encPs (chainP l)))] : List (Nat × IBlk))) (toPs es) | _, _ => []⟩
theorem hk_spec_chain : ∀ args hp, hs_spec_chain.pre args hp → HCall Try.prog 26 args (sm hp) (hs_spec_chain.val args hp) (sm (hs_spec_chain.hval args hp)) := by
  intro args hp h
  unfold hs_spec_chain at h ⊢; simp only at h ⊢; split at h
  · obtain ⟨h1, h2, h3⟩ := h; obtain ⟨l, rfl⟩ := isP_ex h1; rw [toPs_enc] at *; exact c_spec_chain l h2 h3
  · exact h.elim
theorem en_spec_chain : Enters Try.prog 26 := enters_of Try.func26 (by kernel_rfl) rfl


def g_impl_half : List (Nat × PSpec) := [(48, sp_impl_turn)]
theorem gok_impl_half : GOK Try.prog g_impl_half := gok_cons gk_impl_turn en_impl_turn (gok0)
theorem lk_impl_half_impl_turn : lkG g_impl_half 48 = sp_impl_turn := rfl
def h_impl_half : List (Nat × HSpec) := []
theorem hok_impl_half : HOK Try.prog h_impl_half := hok0
theorem c_impl_half (l : List Pt) (hm : SmL l) (hsz : l.length ≤ 1000000) : HCall Try.prog 31 [.sl 2 (encPs l)] (sm ([])) (.ref 0 0 (chainP l).length true) (sm ([(0, .arr 2 38 (encPs (chainP l)))])) := by
  refine hcall_V (G := g_impl_half) (H := []) [(5, [(0, 17), (1, 17), (2, 17), (4, 17), (5, 17), (6, 17), (7, 17), (8, 17), (10, 17), (11, 17), (12, 17), (13, 17), (14, 17), (17, 19)])] tabOK mixed gok_impl_half hok_impl_half Try.func31 rfl Try.ntmps31 Try.results31 rfl (by kernel_rfl) fun F hN hlen => ?_
  simp only [sm]
  have el := len_encPs l
  simp only [V_seq, V_block, V_region, W_nil, W_cons, effOp2, KN_seq, effOp, effPure, effNew, effBuildSlice, effFrz, frz, tmpsOf, skipE, pureV, lenV, ofC, strip, lkT, ISt.app, opI, gO, gB, allB, gval, wrapG, dstOK, setD, mentTm, mentHp, IV.ment, partsL, eltsI, enumT, Op.operands, Call.operands, List.append_toArray, reduceIte, reduceCtorEq, cond_true, Bool.or_false, Nat.reduceMul, Nat.reduceLT, Nat.reduceLeDiff, Nat.reduceEqDiff, ne_eq, not_false_eq_true, true_and, and_self, implies_true, List.nil_append, List.cons_append, List.append_nil, List.length_nil, tab26, tab38, hN, el]
  refine V_loop (α := Nat) ⟨tabOK, mixed, gok_impl_half.toF F, hok_impl_half⟩ (by kernel_rfl) (fun i => i ≤ l.length) (fun i => ⟨[(9, .num .i64 i), (8, .num .i64 l.length), (7, .sl 2 (encPs l)), (3, .ref 6 0 (chainR (l.take i)).length true)], [(6, some (.arr 2 38 (encPs (chainR (l.take i)).reverse)))]⟩) (fun i => l.length - i) 0 id (Nat.zero_le _)
    (by simp [SLe, SLe0, convTm, convHp, convB, conv, conv0, lkT, lkH, clean, chainR, encPs]) ?_
  intro i hi
  have hc0 := chainR_len (l.take i)
  rw [List.length_take] at hc0
  simp only [V_seq, V_region, V_cond, W_nil, W_cons, effOp2, KN_seq, asB, effOp, effPure, pureV, binV, strip, lkT, ISt.app, opI, gO, gB, allB, gval, wrapG, dstOK, setD, Op.operands, reduceIte, Nat.reduceLT, Nat.reduceEqDiff, true_and, and_self, implies_true, List.nil_append, List.cons_append, hN]
  refine brW_some (fun h => ?_) (fun h => ?_)
  · have hi' : i < l.length := by simpa using h
    have g0 := getD_encPs hi'
    have hw := wr_succ hi' (by rw [maxLen_eq]; omega)
    have hsi := hm.at i
    have hcm : SmL (chainR (l.take i)) := fun v hv => by
      rcases chainR_mem _ [] v hv with h | h
      · simp at h
      · exact hm v (List.mem_of_mem_take h)
    have hstep := chainR_succ hi'
    generalize chainR (l.take i) = st at *
    simp only [V_seq, V_skip, V_block, V_region, W_nil, W_cons, effOp2, KN_seq, effOp, effPure, effNew, effAlloc, effStore, skipE, pureV, storeV, partV, eltV, loadV, iaddrV, over, solid, IV.cells, strip, lkT, lkH, ISt.app, opI, gO, gB, allB, gval, wrapG, dstOK, setD, mentTm, mentHp, IV.ment, IV.mentL, oneI, Op.operands, reduceIte, reduceCtorEq, cond_true, Bool.or_false, Bool.and_true, Nat.reduceAdd, Nat.reduceLT, Nat.reduceLeDiff, Nat.reduceEqDiff, Nat.reduceBEq, Nat.zero_add, ne_eq, not_false_eq_true, true_and, and_true, and_false, and_self, implies_true, forall_const, List.nil_append, List.cons_append, List.append_nil, List.all_cons, List.all_nil, List.getD_cons_zero, List.length_cons, List.length_nil, List.take_succ_cons, List.take_zero, List.take_nil, List.drop_succ_cons, List.drop_zero, List.drop_nil, tab26, tab38, hN, Int.toNat_natCast, el, g0]
    repeat refine And.intro (by first | omega | (simp; done) | (simp; omega)) ?_
    refine V_loop (α := List Pt) ⟨tabOK, mixed, gok_impl_half.toF F, hok_impl_half⟩ (by kernel_rfl) (fun s => popP s (pAt l i) = popP st (pAt l i) ∧ SmL s ∧ s.length ≤ l.length) (fun s => ⟨[(9, .num .i64 i), (8, .num .i64 l.length), (7, .sl 2 (encPs l)), (5, .ptr 5 0), (3, .ref 6 0 s.length true)], [(6, some (.arr 2 38 (encPs s.reverse))), (5, some (.box 38 [.num .i64 (pAt l i).1, .num .i64 (pAt l i).2]))]⟩) (fun s => s.length) st id ⟨rfl, hcm, by omega⟩ (by simp [SLe, SLe0, convTm, convHp, convB, conv, conv0, convL, lkT, lkH, clean]) ?_
    rintro s ⟨hpop, hsm, hsl⟩
    have hx : ∃ k ty es, IBlk.arr 2 38 (encPs s.reverse) = IBlk.arr k ty es := ⟨_, _, _, rfl⟩
    have es := len_encPs s.reverse
    rw [List.length_reverse] at es
    have hfin : popP st (pAt l i) = s → encPs (chainR (l.take (i + 1))).reverse = (encPs s.reverse).take s.length ++ [IV.agg [.num .i64 (pAt l i).1, .num .i64 (pAt l i).2]] := by
      intro hs
      rw [hstep, hs, List.reverse_cons, ← encPs_app, List.take_of_length_le (by omega)]
      rfl
    match s, hpop, hsm, hsl, hx, es, hfin with
    | [], hpop, hsm, hsl, hx, es, hfin =>
      have d1 : decide ((1 : Int) < ((0 : Nat) : Int)) = false := rfl
      simp only [List.length_nil] at hsl es hfin
      have n0 : encPs ([] : List Pt).reverse = [] := rfl
      have n1 : ∀ k, ([] : List IV).getD k .junk = .junk := fun k => rfl
      rw [n0] at hx es hfin
      simp only [V_seq, V_ret, V_exit, V_region, V_draw, V_cond, brW_false, drawW, WS_nil, pairsOf, W_nil, W_cons, effOp2, effOp3, WI_nil, WI_cons, KN_seq, KN_block, KN_back, KXr_nil, KXe_nil, KXe_seq, KXe_block, KXe_back, QE, dynOK, indB, farB, freshB, freshK, freshK1, heapy, asB, effOp, effPure, effPick, effNew, effBuildSlice, effFrz, frz, tmpsOf, effAppend, effZeros, effCall, giveUp, hasAll, Option.isSome_some, skipE, pureV, pickV, srcV, refId, binV, partV, eltV, loadV, iaddrV, lenV, ofC, strip, lkT, lkH, ISt.app, opI, gO, gB, allB, gval, wrapG, dstOK, setD, mentTm, mentHp, IV.ment, IV.mentL, partsL, eltsI, eltI, oneI, noId', lendV, lendP, lent, lentP, idsV, idsL, lkHS, flat, clean, callArgs, callFn, allLent, conv, conv0, Op.operands, Call.operands, List.append_toArray, reduceIte, reduceCtorEq, cond_true, cond_false, Bool.or_false, Bool.or_true, Bool.and_true, Bool.and_eq_true, Bool.not_false, Nat.reduceAdd, Nat.reduceMul, Nat.reduceLT, Nat.reduceLeDiff, Nat.reduceEqDiff, Nat.reduceBEq, Nat.zero_add, ne_eq, not_false_eq_true, true_and, and_true, false_and, and_false, and_self, false_implies, implies_true, List.map_cons, List.map_nil, List.nil_append, List.cons_append, List.append_nil, List.all_cons, List.all_nil, Option.some.injEq, Option.bind_some, List.getElem?_cons_zero, List.getElem?_cons_succ, List.getD_cons_zero, List.getD_cons_succ, List.length_cons, List.length_nil, List.take_succ_cons, List.take_zero, List.take_nil, List.drop_zero, ex_clo, bft, or_true, Bool.false_eq_true, tab26, tab38, hN, FinH, resA, resV, SLe, SLe0, convTm, convHp, convB, lk_impl_half_impl_turn, sp_impl_turn, d1, n0, n1, hw]
      have hs : popP st (pAt l i) = [] := by rw [← hpop]; rfl
      have hcl : (chainR (l.take (i + 1))).length = 1 := by rw [hstep, hs]; rfl
      have hf := hfin hs
      repeat refine And.intro (by first | omega | (simp; done) | (simp; omega)) ?_
      refine ⟨i + 1, fun x => if x = 6 then 41 else x, by simp only []; omega, by simp only []; omega, ?_⟩
      simp only [SLe, SLe0, convTm, convHp, convB, conv, conv0, lkT, lkH, clean, hcl, hf, if_true]
      simp
      omega
    | [b], hpop, hsm, hsl, hx, es, hfin =>
      have d1 : decide ((1 : Int) < ((1 : Nat) : Int)) = false := rfl
      simp only [List.length_cons, List.length_nil] at hsl es hfin
      have n0 : encPs [b].reverse = [.agg [.num .i64 b.1, .num .i64 b.2]] := rfl
      have n1 : (IntKind.i64.wrap (((1 : Nat) : Int) - 2)).toNat = 0 := by decide
      have n2 : IntKind.i64.wrap (((1 : Nat) : Int) - 1) = ((0 : Nat) : Int) := by decide
      rw [n0] at hx es hfin
      simp only [V_seq, V_ret, V_exit, V_region, V_draw, V_cond, brW_false, drawW, WS_nil, pairsOf, W_nil, W_cons, effOp2, effOp3, WI_nil, WI_cons, KN_seq, KN_block, KN_back, KXr_nil, KXe_nil, KXe_seq, KXe_block, KXe_back, QE, dynOK, indB, farB, freshB, freshK, freshK1, heapy, asB, effOp, effPure, effPick, effNew, effBuildSlice, effFrz, frz, tmpsOf, effAppend, effZeros, effCall, giveUp, hasAll, Option.isSome_some, skipE, pureV, pickV, srcV, refId, binV, partV, eltV, loadV, iaddrV, lenV, ofC, strip, lkT, lkH, ISt.app, opI, gO, gB, allB, gval, wrapG, dstOK, setD, mentTm, mentHp, IV.ment, IV.mentL, partsL, eltsI, eltI, oneI, noId', lendV, lendP, lent, lentP, idsV, idsL, lkHS, flat, clean, callArgs, callFn, allLent, conv, conv0, Op.operands, Call.operands, List.append_toArray, reduceIte, reduceCtorEq, cond_true, cond_false, Bool.or_false, Bool.or_true, Bool.and_true, Bool.and_eq_true, Bool.not_false, Nat.reduceAdd, Nat.reduceMul, Nat.reduceLT, Nat.reduceLeDiff, Nat.reduceEqDiff, Nat.reduceBEq, Nat.add_zero, Nat.zero_add, ne_eq, not_false_eq_true, true_and, and_true, false_and, and_false, and_self, false_implies, implies_true, List.map_cons, List.map_nil, List.nil_append, List.cons_append, List.append_nil, List.all_cons, List.all_nil, Option.some.injEq, Option.bind_some, List.getElem?_cons_zero, List.getElem?_cons_succ, List.getD_cons_zero, List.getD_cons_succ, List.length_cons, List.length_nil, List.take_succ_cons, List.take_zero, List.take_nil, List.drop_zero, ex_clo, bft, or_self, Bool.false_eq_true, tab26, tab38, hN, pe, Int.toNat_natCast, FinH, resA, resV, SLe, SLe0, convTm, convHp, convB, lk_impl_half_impl_turn, sp_impl_turn, d1, n0, n1, n2, hw]
      have hs : popP st (pAt l i) = [b] := by rw [← hpop]; rfl
      have hcl : (chainR (l.take (i + 1))).length = 2 := by rw [hstep, hs]; rfl
      have hf := hfin hs
      repeat refine And.intro (by first | omega | (simp; done) | (simp; omega)) ?_
      refine ⟨i + 1, fun x => if x = 6 then 41 else x, by simp only []; omega, by simp only []; omega, ?_⟩
      simp only [SLe, SLe0, convTm, convHp, convB, conv, conv0, lkT, lkH, clean, hcl, hf, if_true]
      simp
      omega
    | b :: a :: r, hpop, hsm, hsl, hx, es, hfin =>
      simp only [List.length_cons] at hsl es hfin
      have d1 : decide ((1 : Int) < ((r.length + 1 + 1 : Nat) : Int)) = true := by simp only [decide_eq_true_eq]; omega
      have w2 : IntKind.i64.wrap (((r.length + 1 + 1 : Nat) : Int) - 2) = ((r.length : Nat) : Int) := by rw [wr (by omega) (by omega)]; omega
      have w1 : IntKind.i64.wrap (((r.length + 1 + 1 : Nat) : Int) - 1) = ((r.length + 1 : Nat) : Int) := by rw [wr (by omega) (by omega)]; omega
      have g1 := getD_encPs (l := (b :: a :: r).reverse) (i := r.length) (by simp)
      have g2 := getD_encPs (l := (b :: a :: r).reverse) (i := r.length + 1) (by simp)
      rw [at_rev1] at g1
      rw [at_rev2] at g2
      have sb := hsm b (by simp)
      have sa := hsm a (by simp)
      simp only [V_seq, V_draw, V_cond, drawW, WS_nil, pairsOf, W_nil, W_cons, effOp2, effOp3, WI_nil, WI_cons, KN_seq, dynOK, indB, farB, freshB, freshK, freshK1, heapy, asB, effOp, effPure, effPick, effCall, giveUp, hasAll, pureV, pickV, binV, partV, eltV, loadV, iaddrV, lenV, ofC, strip, lkT, lkH, ISt.app, opI, gO, gB, allB, gval, wrapG, dstOK, setD, mentTm, mentHp, IV.ment, lendV, lendP, lent, lentP, idsV, idsL, lkHS, flat, clean, callArgs, callFn, allLent, Op.operands, Call.operands, List.append_toArray, reduceIte, reduceCtorEq, cond_true, cond_false, Bool.or_false, Bool.and_true, Bool.and_eq_true, Bool.not_true, Bool.not_false, Nat.reduceAdd, Nat.reduceLT, Nat.reduceLeDiff, Nat.reduceEqDiff, Nat.reduceBEq, Nat.zero_add, ne_eq, not_false_eq_true, beq_self_eq_true, true_and, and_true, and_false, and_self, implies_true, forall_const, List.map_cons, List.map_nil, List.nil_append, List.cons_append, List.append_nil, Option.bind_some, List.getElem?_cons_zero, List.getElem?_cons_succ, List.getD_cons_zero, List.getD_cons_succ, List.length_cons, List.length_nil, List.take_succ_cons, List.take_zero, List.take_nil, List.drop_zero, ex_clo, or_self, Bool.true_eq_false, tab26, tab38, hN, pe, Int.toNat_natCast, lk_impl_half_impl_turn, sp_impl_turn, d1, w1, w2, g1, g2, sa, sb, hsi]
      repeat refine And.intro (by first | omega | (simp; done) | (simp; omega)) ?_
      refine brW_some (fun h => ?_) (fun h => ?_)
      · have ht : turn a b (pAt l i) ≤ 0 := by simpa using h
        simp only [V_skip, V_block, V_region, W_nil, W_cons, effOp2, KN_seq, KN_block, KN_back, effOp, effPure, pureV, binV, sliceV, lenV, ofC, strip, lkT, lkH, ISt.app, opI, gO, gB, allB, gval, wrapG, dstOK, setD, Op.operands, Call.operands, List.append_toArray, Array.append_empty, Option.toArray_none, Option.toArray_some, reduceIte, reduceCtorEq, Nat.reduceLT, Nat.reduceEqDiff, ne_eq, not_false_eq_true, true_and, and_true, and_self, implies_true, forall_const, List.nil_append, List.cons_append, Option.map_some, Option.map_none, tab26, tab38, hN, Int.toNat_natCast, w1]
        repeat refine And.intro (by first | omega | (simp; done) | (simp; omega)) ?_
        refine ⟨a :: r, id, ⟨?_, fun v hv => hsm v (List.mem_cons_of_mem _ hv), by simp only [List.length_cons]; omega⟩, by simp only [List.length_cons]; omega, ?_⟩
        · rw [← hpop, popP, if_pos ht]
        · simp [SLe, SLe0, convTm, convHp, convB, conv, conv0, convL, lkT, lkH, clean]
          rw [show r.reverse ++ [a, b] = (r.reverse ++ [a]) ++ [b] by simp, ← encPs_app (r.reverse ++ [a]) [b], List.take_left]
      · have ht : ¬ turn a b (pAt l i) ≤ 0 := by simpa using h
        simp only [V_seq, V_ret, V_exit, V_region, W_nil, W_cons, effOp2, KN_seq, KN_block, KN_back, KXr_nil, KXe_nil, KXe_seq, KXe_block, KXe_back, QE, effOp, effPure, effNew, effBuildSlice, effFrz, frz, tmpsOf, effAppend, effZeros, Option.isSome_some, skipE, pureV, srcV, refId, binV, partV, loadV, ofC, strip, lkT, lkH, ISt.app, opI, gO, gB, allB, gval, wrapG, dstOK, setD, mentTm, mentHp, IV.ment, IV.mentL, partsL, eltsI, eltI, oneI, noId', conv, conv0, Op.operands, reduceIte, reduceCtorEq, cond_true, Bool.or_false, Bool.and_true, Nat.reduceAdd, Nat.reduceMul, Nat.reduceLT, Nat.reduceLeDiff, Nat.reduceEqDiff, Nat.reduceBEq, Nat.zero_add, ne_eq, not_false_eq_true, true_and, and_true, and_false, and_self, implies_true, List.map_cons, List.map_nil, List.nil_append, List.cons_append, List.append_nil, List.all_cons, List.all_nil, Option.some.injEq, List.getD_cons_zero, List.length_cons, List.length_nil, List.take_succ_cons, List.take_nil, List.drop_zero, tab26, tab38, hN, FinH, resA, resV, SLe, SLe0, convTm, convHp, convB, hw]
        have hs : popP st (pAt l i) = b :: a :: r := by rw [← hpop, popP, if_neg ht]
        have hcl : (chainR (l.take (i + 1))).length = r.length + 1 + 1 + 1 := by rw [hstep, hs]; rfl
        have hf := hfin hs
        repeat refine And.intro (by first | omega | (simp; done) | (simp; omega)) ?_
        refine ⟨i + 1, fun x => if x = 6 then 41 else x, by simp only []; omega, by simp only []; omega, ?_⟩
        simp only [SLe, SLe0, convTm, convHp, convB, conv, conv0, lkT, lkH, clean, hcl, if_true]
        simp
        refine ⟨take_eq_of ?_, fun x a1 a2 a3 => by omega⟩
        simpa using hf
  · have hie : i = l.length := by simp at h; omega
    subst hie
    have hcp : (chainR l).reverse = chainP l := rfl
    have hcl : (chainR l).length = (chainP l).length := by rw [← hcp, List.length_reverse]
    simp only [V_seq, V_ret, V_exit, V_region, W_nil, W_cons, effOp2, KN_seq, KXr_nil, KXe_nil, KXe_seq, KXe_block, KXe_back, QE, effOp, effPure, Option.isSome_some, pureV, strip, lkT, lkH, ISt.app, opI, gO, gB, allB, gval, wrapG, dstOK, setD, conv, conv0, Op.operands, reduceIte, Nat.reduceLT, Nat.reduceEqDiff, true_and, and_true, and_self, implies_true, List.map_cons, List.map_nil, List.nil_append, List.cons_append, hN, FinH, resA, resV, SLe, SLe0, convTm, convHp, convB, List.take_length, hcp, hcl]
    exact ⟨fun x => if x = 0 then 6 else x, by simp [take_encPs]; omega⟩
def hs_impl_half : HSpec := ⟨[true], fun xs hp => match xs, hp with | [.sl 2 es], [] => (isPs es) ∧ ((fun (l : List Pt) => SmL l) (toPs es)) ∧ ((fun (l : List Pt) => l.length ≤ 1000000) (toPs es)) | _, _ => False, fun xs hp => match xs, hp with | [.sl 2 es], [] => (fun (l : List Pt) => (.ref 0 0 (chainP l).length true : IV)) (toPs es) | _, _ => .junk, fun xs hp => match xs, hp with | [.sl 2 es], [] => (fun (l : List Pt) => ([(0, .arr 2 38 (encPs (chainP l)))] : List (Nat × IBlk))) (toPs es) | _, _ => []⟩
theorem hk_impl_half : ∀ args hp, hs_impl_half.pre args hp → HCall Try.prog 31 args (sm hp) (hs_impl_half.val args hp) (sm (hs_impl_half.hval args hp)) := by
  intro args hp h
  unfold hs_impl_half at h ⊢; simp only at h ⊢; split at h
  · obtain ⟨h1, h2, h3⟩ := h; obtain ⟨l, rfl⟩ := isP_ex h1; rw [toPs_enc] at *; exact c_impl_half l h2 h3
  · exact h.elim
theorem en_impl_half : Enters Try.prog 31 := enters_of Try.func31 (by kernel_rfl) rfl


end Go.Proofs.Ytiadicmnbjaknaa
