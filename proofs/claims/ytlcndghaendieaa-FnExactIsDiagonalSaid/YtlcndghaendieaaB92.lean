/- Contracts: diagonals of simple polygons. -/
import Derived.Test.YtlcndghaendieaaB21
import Derived.Test.YtlcndghaendieaaBX
import Derived.Test.YtlcndghaendieaaPl47
set_option linter.unusedVariables false
set_option linter.unusedSimpArgs false
set_option maxHeartbeats 16000000
set_option maxRecDepth 100000
namespace Go.Proofs.Ytlcndghaendieaa
open Go Go.Ideal Go.Pl Go.Sort

abbrev iAt (l : List Int) (i : Nat) : Int := l.getD i 0
theorem noSl_encI : ∀ M : List Int, noSlL (encI M) = true
  | [] => rfl
  | x :: M => noSl_encI M
def g_laws_toPointS_v : List (Nat × PSpec) := [(52, sp_laws_toPoint)]
theorem gok_laws_toPointS_v : GOK Try.prog g_laws_toPointS_v := gok_cons gk_laws_toPoint en_laws_toPoint (gok0)
theorem lk_laws_toPointS_v_laws_toPoint : lkG g_laws_toPointS_v 52 = sp_laws_toPoint := rfl
def h_laws_toPointS_v : List (Nat × HSpec) := []
theorem hok_laws_toPointS_v : HOK Try.prog h_laws_toPointS_v := hok0
theorem c_laws_toPointS_v (l : List Pt) (hsz : l.length ≤ 1048576) : ICallF Try.prog 21 [.sl 2 (encPs l)] (.sl 2 (encPs l)) := by
  exact icallF_ref (c_laws_toPointS l hsz) (len_encPs _).symm (noSl_encPs _)
def sp_laws_toPointS_v : PSpec := ⟨fun xs => match xs with | [.sl 2 les] => isPs les ∧ ((fun (l : List Pt) => l.length ≤ 1048576) (toPs les)) | _ => False, fun xs => match xs with | [.sl _ les] => (fun (l : List Pt) => .sl 2 (encPs l)) (toPs les) | _ => .junk, true⟩
theorem gk_laws_toPointS_v : ∀ args, sp_laws_toPointS_v.pre args → ICallF Try.prog 21 args (sp_laws_toPointS_v.val args) ∧ ∀ id, (sp_laws_toPointS_v.val args).ment id = false := by
  intro args h
  unfold sp_laws_toPointS_v at h ⊢; simp only at h ⊢; split at h
  · obtain ⟨h0, h1⟩ := h
    obtain ⟨l0, rfl⟩ := isP_ex h0
    simp only [toPs_enc] at *
    exact ⟨c_laws_toPointS_v _ h1, fun id => rfl⟩
  · exact h.elim
theorem en_laws_toPointS_v : Enters Try.prog 21 := enters_of Try.func21 (by kernel_rfl) rfl

def g_impl_Point_plus : List (Nat × PSpec) := []
theorem gok_impl_Point_plus : GOK Try.prog g_impl_Point_plus := gok0
def h_impl_Point_plus : List (Nat × HSpec) := []
theorem hok_impl_Point_plus : HOK Try.prog h_impl_Point_plus := hok0
theorem c_impl_Point_plus (p : Pt) (q : Pt) (hp : Sm p) (hq : Sm q) : ICall Try.prog 102 [encP p, encP q] (encP (p.1 + q.1, p.2 + q.2)) := by
  refine icall_of_hcall (v := encP (p.1 + q.1, p.2 + q.2)) (hp' := []) id ?_ (by simp [SLe0, convTm, convHp, conv, convL, conv0, lkT, clean, encP]) (by simp [idsV, idsL, encP])
  refine hcall_V (G := g_impl_Point_plus) (H := []) [] tabOK mixed gok_impl_Point_plus hok_impl_Point_plus Try.func102 rfl Try.ntmps102 Try.results102 rfl (by kernel_rfl) fun F hN hlen => ?_
  have h1 := hp
  have h2 := hq
  simp only [Sm, sm1] at h1 h2
  have w1 : IntKind.i64.wrap (p.1 + q.1) = p.1 + q.1 := wr (by omega) (by omega)
  have w2 : IntKind.i64.wrap (p.2 + q.2) = p.2 + q.2 := wr (by omega) (by omega)
  simp only [V_seq, V_ret, V_region, W_nil, W_cons, effOp2, KN_seq, KXr_nil, QE, effOp, effPure, effNew, effAlloc, effBox, effStore, skipE, pureV, storeV, binV, partV, loadV, faddrV, over, solid, buildL, IV.cells, ofC, strip, lkT, lkH, ISt.app, opI, gO, gB, allB, gval, wrapG, dstOK, setD, mentTm, mentHp, IV.ment, IV.mentL, oneI, clean, enumT, conv, conv0, convL, IBlk.shape, Op.operands, reduceIte, reduceCtorEq, cond_true, Bool.or_false, Bool.and_true, Nat.reduceAdd, Nat.reduceLT, Nat.reduceLeDiff, Nat.reduceEqDiff, Nat.reduceBEq, Nat.add_zero, Nat.zero_add, ne_eq, not_false_eq_true, true_and, and_true, false_and, and_false, and_self, implies_true, List.map_cons, List.map_nil, List.nil_append, List.cons_append, List.append_nil, List.all_cons, List.all_nil, Option.map_some, List.getD_cons_zero, List.getD_cons_succ, List.length_cons, List.length_nil, List.take_succ_cons, List.take_zero, List.take_nil, List.drop_succ_cons, List.drop_zero, List.drop_nil, tab3, tab28, hN, encP, FinH, resA, resV, SLe, SLe0, convTm, convHp, w1, w2]
  exact ⟨id, by simp⟩
def sp_impl_Point_plus : PSpec := ⟨fun xs => match xs with | [.agg [.num .i64 p1, .num .i64 p2], .agg [.num .i64 q1, .num .i64 q2]] => ((fun (p : Pt) (q : Pt) => Sm p) (p1, p2) (q1, q2)) ∧ ((fun (p : Pt) (q : Pt) => Sm q) (p1, p2) (q1, q2)) | _ => False, fun xs => match xs with | [.agg [.num _ p1, .num _ p2], .agg [.num _ q1, .num _ q2]] => (fun (p : Pt) (q : Pt) => encP (p.1 + q.1, p.2 + q.2)) (p1, p2) (q1, q2) | _ => .junk, false⟩
theorem gk_impl_Point_plus : ∀ args, sp_impl_Point_plus.pre args → ICall Try.prog 102 args (sp_impl_Point_plus.val args) := by
  intro args h
  unfold sp_impl_Point_plus at h ⊢; simp only at h ⊢; split at h
  · obtain ⟨h0, h1⟩ := h
    simp only [toPs_enc] at *
    exact c_impl_Point_plus (_, _) (_, _) h0 h1
  · exact h.elim
theorem en_impl_Point_plus : Enters Try.prog 102 := enters_of Try.func102 (by kernel_rfl) rfl


/-! points twice as far -/
theorem dblP_len (l : List Pt) : (dblP l).length = l.length := by simp [dblP]
theorem dblP_take_succ {l : List Pt} {i : Nat} (h : i < l.length) : dblP (l.take (i + 1)) = dblP (l.take i) ++ [dbl (pAt l i)] := by
  rw [take_succ_g (d := (0, 0)) h, dblP, List.map_append]; rfl
def g_impl_twice : List (Nat × PSpec) := [(102, sp_impl_Point_plus)]
theorem gok_impl_twice : GOK Try.prog g_impl_twice := gok_cons gk_impl_Point_plus en_impl_Point_plus (gok0)
theorem lk_impl_twice_impl_Point_plus : lkG g_impl_twice 102 = sp_impl_Point_plus := rfl
def h_impl_twice : List (Nat × HSpec) := []
theorem hok_impl_twice : HOK Try.prog h_impl_twice := hok0
theorem c_impl_twice (l : List Pt) (hm : SmL l) (hsz : l.length ≤ 1000000) : HCall Try.prog 101 [.sl 2 (encPs l)] (sm ([])) (.ref 0 0 l.length true) (sm ([(0, .arr 2 28 (encPs (dblP l)))])) := by
  refine hcall_V (G := g_impl_twice) (H := []) [] tabOK mixed gok_impl_twice hok_impl_twice Try.func101 rfl Try.ntmps101 Try.results101 rfl (by kernel_rfl) fun F hN hlen => ?_
  simp only [sm]
  have el := len_encPs l
  simp only [V_seq, V_block, V_region, W_nil, W_cons, effOp2, KN_seq, effOp, effPure, effNew, effMake, skipE, pureV, lenV, ofC, strip, lkT, ISt.app, opI, gO, gB, allB, gval, wrapG, dstOK, setD, mentTm, mentHp, IV.ment, zeroElt, noId', enumT, Op.operands, Call.operands, List.append_toArray, reduceIte, reduceCtorEq, cond_true, Bool.or_false, Bool.and_true, Nat.reduceLT, Nat.reduceLeDiff, Nat.reduceEqDiff, ne_eq, not_false_eq_true, true_and, and_true, and_self, implies_true, List.nil_append, List.cons_append, List.append_nil, List.all_cons, List.all_nil, tab23, tab28, hN, el]
  refine ⟨by omega, ?_⟩
  refine V_loop (α := Nat) ⟨tabOK, mixed, gok_impl_twice, hok_impl_twice⟩ (by kernel_rfl) (fun i => i ≤ l.length) (fun i => ⟨[(11, .num .i64 i), (10, .num .i64 l.length), (9, .sl 2 (encPs l)), (3, .ref 8 0 i true), (0, .sl 2 (encPs l))], [(8, some (.arr 2 28 (encPs (dblP (l.take i)))))]⟩) (fun i => l.length - i) 0 id (Nat.zero_le _) (by simp [SLe, SLe0, convTm, convHp, convB, conv, conv0, lkT, lkH, clean, dblP, encPs]) ?_
  intro i hi
  have ee : (encPs (dblP (l.take i))).length = i := by rw [len_encPs, dblP_len, List.length_take]; omega
  simp only [V_seq, V_region, V_cond, W_nil, W_cons, effOp2, KN_seq, asB, effOp, effPure, pureV, binV, strip, lkT, ISt.app, opI, gO, gB, allB, gval, wrapG, dstOK, setD, Op.operands, reduceIte, reduceCtorEq, Nat.reduceLT, Nat.reduceEqDiff, true_and, and_self, implies_true, List.nil_append, List.cons_append, hN]
  refine brW_some (fun h => ?_) (fun h => ?_)
  · have hi' : i < l.length := by simpa using h
    have g0 := getD_encPs hi'
    have hw := wr_succ hi' (by rw [maxLen_eq]; omega)
    have s0 := hm.at i
    have hst := dblP_take_succ hi'
    simp only [V_seq, V_skip, V_block, V_region, W_nil, W_cons, effOp2, KN_seq, KN_block, KN_back, effOp, effPure, effNew, effAlloc, effBuildSlice, effFrz, frz, tmpsOf, effStore, effAppend, effZeros, effCall, giveUp, hasAll, skipE, pureV, storeV, srcV, refId, binV, partV, eltV, loadV, iaddrV, over, solid, IV.cells, ofC, strip, lkT, lkH, ISt.app, opI, gO, gB, allB, gval, wrapG, dstOK, setD, mentTm, mentHp, IV.ment, IV.mentL, partsL, eltsI, eltI, oneI, noId', lendV, lendP, lent, lentP, idsV, idsL, lkHS, flat, flatL, clean, cleanL, callArgs, callFn, allLent, Op.operands, reduceIte, reduceCtorEq, cond_true, Bool.or_false, Bool.and_true, Bool.not_true, Nat.reduceAdd, Nat.reduceMul, Nat.reduceLT, Nat.reduceLeDiff, Nat.reduceEqDiff, Nat.reduceBEq, Nat.zero_add, ne_eq, not_false_eq_true, true_and, and_true, and_false, and_self, implies_true, forall_const, List.map_cons, List.map_nil, List.nil_append, List.cons_append, List.append_nil, List.all_cons, List.all_nil, Option.some.injEq, List.getD_cons_zero, List.length_cons, List.length_nil, List.take_succ_cons, List.take_zero, List.take_nil, List.drop_succ_cons, List.drop_zero, List.drop_nil, ex_clo, or_self, tab23, tab28, hN, pe, Int.toNat_natCast, encP, lk_impl_twice_impl_Point_plus, sp_impl_Point_plus, el, hw, g0, ee, s0]
    repeat refine And.intro (by first | omega | (simp; done) | (simp; omega)) ?_
    refine ⟨i + 1, fun x => if x = 8 then 20 else x, by simp only []; omega, by simp only []; omega, ?_⟩
    simp [SLe, SLe0, convTm, convHp, convB, conv, conv0, lkT, lkH, clean]
    refine ⟨take_eq_of ?_, fun x a1 a2 a3 => by omega⟩
    rw [hst, ← encPs_app, List.take_of_length_le (l := encPs (dblP (l.take i))) (Nat.le_of_eq ee)]
    rfl
  · have hie : i = l.length := by simp at h; omega
    subst hie
    rw [List.take_length] at ee ⊢
    simp only [V_seq, V_ret, V_exit, V_region, W_nil, W_cons, effOp2, KN_seq, KXr_nil, KXe_nil, KXe_seq, KXe_block, KXe_back, QE, effOp, effPure, Option.isSome_some, pureV, strip, lkT, lkH, ISt.app, opI, gO, gB, allB, gval, wrapG, dstOK, setD, conv, conv0, Op.operands, reduceIte, reduceCtorEq, Nat.reduceLT, Nat.reduceEqDiff, true_and, and_true, and_self, implies_true, List.map_cons, List.map_nil, List.nil_append, List.cons_append, hN, FinH, resA, resV, SLe, SLe0, convTm, convHp, convB]
    exact ⟨fun x => if x = 0 then 8 else x, by simp; omega⟩
def hs_impl_twice : HSpec := ⟨[true], fun xs hp => match xs, hp with | [.sl 2 es], [] => (isPs es) ∧ ((fun (l : List Pt) => SmL l) (toPs es)) ∧ ((fun (l : List Pt) => l.length ≤ 1000000) (toPs es)) | _, _ => False, fun xs hp => match xs, hp with | [.sl 2 es], [] => (fun (l : List Pt) => (.ref 0 0 l.length true : IV)) (toPs es) | _, _ => .junk, fun xs hp => match xs, hp with | [.sl 2 es], [] => (fun (l : List Pt) => ([(0, .arr 2 28 (encPs (dblP l)))] : List (Nat × IBlk))) (toPs es) | _, _ => []⟩
theorem hk_impl_twice : ∀ args hp, hs_impl_twice.pre args hp → HCall Try.prog 101 args (sm hp) (hs_impl_twice.val args hp) (sm (hs_impl_twice.hval args hp)) := by
  intro args hp h
  unfold hs_impl_twice at h ⊢; simp only at h ⊢; split at h
  · obtain ⟨h1, h2, h3⟩ := h; obtain ⟨l, rfl⟩ := isP_ex h1; rw [toPs_enc] at *; exact c_impl_twice l h2 h3
  · exact h.elim
theorem en_impl_twice : Enters Try.prog 101 := enters_of Try.func101 (by kernel_rfl) rfl

def g_impl_twice_v : List (Nat × PSpec) := [(102, sp_impl_Point_plus)]
theorem gok_impl_twice_v : GOK Try.prog g_impl_twice_v := gok_cons gk_impl_Point_plus en_impl_Point_plus (gok0)
theorem lk_impl_twice_v_impl_Point_plus : lkG g_impl_twice_v 102 = sp_impl_Point_plus := rfl
def h_impl_twice_v : List (Nat × HSpec) := []
theorem hok_impl_twice_v : HOK Try.prog h_impl_twice_v := hok0
theorem c_impl_twice_v (l : List Pt) (hm : SmL l) (hsz : l.length ≤ 1000000) : ICallF Try.prog 101 [.sl 2 (encPs l)] (.sl 2 (encPs (dblP l))) := by
  exact icallF_ref (c_impl_twice l hm hsz) (by rw [len_encPs, dblP_len]) (noSl_encPs _)
def sp_impl_twice_v : PSpec := ⟨fun xs => match xs with | [.sl 2 les] => isPs les ∧ ((fun (l : List Pt) => SmL l) (toPs les)) ∧ ((fun (l : List Pt) => l.length ≤ 1000000) (toPs les)) | _ => False, fun xs => match xs with | [.sl _ les] => (fun (l : List Pt) => .sl 2 (encPs (dblP l))) (toPs les) | _ => .junk, true⟩
theorem gk_impl_twice_v : ∀ args, sp_impl_twice_v.pre args → ICallF Try.prog 101 args (sp_impl_twice_v.val args) ∧ ∀ id, (sp_impl_twice_v.val args).ment id = false := by
  intro args h
  unfold sp_impl_twice_v at h ⊢; simp only at h ⊢; split at h
  · obtain ⟨h0, h1, h2⟩ := h
    obtain ⟨l0, rfl⟩ := isP_ex h0
    simp only [toPs_enc] at *
    exact ⟨c_impl_twice_v _ h1 h2, fun id => rfl⟩
  · exact h.elim
theorem en_impl_twice_v : Enters Try.prog 101 := enters_of Try.func101 (by kernel_rfl) rfl


/-! the ring of the vertices -/
def rgF (n : Nat) (neg : Bool) (i : Nat) : Nat := if neg then (n - i) % n else i
def ringN (l : List Pt) (i : Nat) : List Int := (List.range i).map fun j => ((rgF l.length (decide (areaP l < 0)) j : Nat) : Int)
def ringL (l : List Pt) : List Int := ringN l l.length
theorem ringN_len (l : List Pt) (i : Nat) : (ringN l i).length = i := by simp [ringN]
theorem ringN_succ (l : List Pt) (i : Nat) : ringN l (i + 1) = ringN l i ++ [((rgF l.length (decide (areaP l < 0)) i : Nat) : Int)] := by simp [ringN, List.range_succ]
def g_spec_ringOf : List (Nat × PSpec) := [(49, sp_spec_doubleArea)]
theorem gok_spec_ringOf : GOK Try.prog g_spec_ringOf := gok_cons gk_spec_doubleArea en_spec_doubleArea (gok0)
theorem lk_spec_ringOf_spec_doubleArea : lkG g_spec_ringOf 49 = sp_spec_doubleArea := rfl
def h_spec_ringOf : List (Nat × HSpec) := []
theorem hok_spec_ringOf : HOK Try.prog h_spec_ringOf := hok0
theorem c_spec_ringOf (l : List Pt) (hm : SmL l) (hsz : l.length ≤ 1000000) : HCall Try.prog 97 [.sl 2 (encPs l)] (sm ([])) (.ref 0 0 l.length true) (sm ([(0, .arr 1 3 (encI (ringL l)))])) := by
  refine hcall_V (G := g_spec_ringOf) (H := []) [] tabOK mixed gok_spec_ringOf hok_spec_ringOf Try.func97 rfl Try.ntmps97 Try.results97 rfl (by kernel_rfl) fun F hN hlen => ?_
  simp only [sm]
  have el := len_encPs l
  simp only [V_seq, V_block, V_region, W_nil, W_cons, effOp2, KN_seq, effOp, effPure, effNew, effBuildSlice, effFrz, frz, tmpsOf, skipE, pureV, ofC, strip, lkT, ISt.app, opI, gO, gB, allB, gval, wrapG, dstOK, setD, mentTm, mentHp, IV.ment, partsL, eltsI, enumT, Op.operands, reduceIte, reduceCtorEq, cond_true, Bool.or_false, Nat.reduceMul, Nat.reduceLT, Nat.reduceLeDiff, Nat.reduceEqDiff, ne_eq, not_false_eq_true, true_and, and_self, implies_true, List.nil_append, List.cons_append, List.append_nil, List.length_nil, tab3, tab72, hN]
  refine V_loop (α := Nat) ⟨tabOK, mixed, gok_spec_ringOf, hok_spec_ringOf⟩ (by kernel_rfl) (fun i => i ≤ l.length) (fun i => ⟨[(4, .num .i64 i), (3, .ref 6 0 i true), (0, .sl 2 (encPs l))], [(6, some (.arr 1 3 (encI (ringN l i))))]⟩) (fun i => l.length - i) 0 id (Nat.zero_le _) (by simp [SLe, SLe0, convTm, convHp, convB, conv, conv0, lkT, lkH, clean, ringN, encI]) ?_
  intro i hi
  have ee : (encI (ringN l i)).length = i := by rw [len_encI, ringN_len]
  simp only [V_seq, V_region, V_cond, W_nil, W_cons, effOp2, KN_seq, asB, effOp, effPure, pureV, binV, lenV, strip, lkT, ISt.app, opI, gO, gB, allB, gval, wrapG, dstOK, setD, Op.operands, Call.operands, List.append_toArray, reduceIte, reduceCtorEq, Nat.reduceLT, Nat.reduceEqDiff, ne_eq, not_false_eq_true, true_and, and_self, implies_true, List.nil_append, List.cons_append, tab23, hN, el]
  refine brW_some (fun h => ?_) (fun h => ?_)
  · have hi' : i < l.length := by simpa using h
    have hw := wr_succ hi' (by rw [maxLen_eq]; omega)
    have hst := ringN_succ l i
    have w1 : IntKind.i64.wrap ((l.length : Int) - (i : Int)) = ((l.length - i : Nat) : Int) := by rw [wr (by omega) (by omega)]; omega
    have t1 : ((l.length - i : Nat) : Int).tmod (l.length : Int) = (((l.length - i) % l.length : Nat) : Int) := by rw [Int.tmod_eq_emod_of_nonneg (by omega)]; simp
    have d5 : ((l.length : Int) == 0) = false := by rw [beq_eq_false_iff_ne]; omega
    cases hneg : decide (areaP l < 0) with
    | true =>
      have hr : rgF l.length (decide (areaP l < 0)) i = (l.length - i) % l.length := by rw [hneg]; rfl
      rw [hr] at hst
      simp only [V_seq, V_skip, V_block, V_region, V_cond, brW_true, W_nil, W_cons, effOp2, KN_seq, KN_block, KN_back, asB, effOp, effPure, effNew, effBuildSlice, effFrz, frz, tmpsOf, effAppend, effZeros, effCall, giveUp, hasAll, skipE, pureV, srcV, refId, binV, lenV, ofC, strip, lkT, lkH, ISt.app, opI, gO, gB, allB, gval, wrapG, dstOK, setD, mentTm, mentHp, IV.ment, partsL, eltsI, eltI, noId', lendV, lendP, lent, lentP, idsV, idsL, lkHS, flat, clean, callArgs, callFn, allLent, Op.operands, Call.operands, List.append_toArray, reduceIte, reduceCtorEq, cond_true, Bool.or_false, Bool.not_true, Nat.reduceMul, Nat.reduceLT, Nat.reduceLeDiff, Nat.reduceEqDiff, Nat.reduceBEq, Nat.zero_add, ne_eq, not_false_eq_true, true_and, and_true, and_self, implies_true, forall_const, List.map_cons, List.map_nil, List.nil_append, List.cons_append, List.append_nil, Option.some.injEq, List.length_cons, List.length_nil, List.take_succ_cons, List.take_nil, List.drop_zero, ex_clo, or_self, tab3, tab23, tab72, hN, isPs_enc, toPs_enc, lk_spec_ringOf_spec_doubleArea, sp_spec_doubleArea, el, hw, ee, hm, hsz, hneg, w1, t1]
      repeat refine And.intro (by first | omega | (simp; done) | (simp; omega)) ?_
      refine ⟨i + 1, fun x => if x = 6 then 27 else x, by simp only []; omega, by simp only []; omega, ?_⟩
      simp [SLe, SLe0, convTm, convHp, convB, conv, conv0, lkT, lkH, clean]
      refine ⟨take_eq_of ?_, fun x a1 a2 a3 => by omega⟩
      rw [hst, ← encI_app, List.take_of_length_le (by omega)]
      rfl
    | false =>
      have hr : rgF l.length (decide (areaP l < 0)) i = i := by rw [hneg]; rfl
      rw [hr] at hst
      simp only [V_seq, V_skip, V_block, V_region, V_cond, brW_false, W_nil, W_cons, effOp2, KN_seq, KN_block, KN_back, asB, effOp, effPure, effNew, effBuildSlice, effFrz, frz, tmpsOf, effAppend, effZeros, effCall, giveUp, hasAll, skipE, pureV, srcV, refId, binV, ofC, strip, lkT, lkH, ISt.app, opI, gO, gB, allB, gval, wrapG, dstOK, setD, mentTm, mentHp, IV.ment, partsL, eltsI, eltI, noId', lendV, lendP, lent, lentP, idsV, idsL, lkHS, flat, clean, callArgs, callFn, allLent, Op.operands, reduceIte, reduceCtorEq, cond_true, Bool.or_false, Bool.not_true, Nat.reduceMul, Nat.reduceLT, Nat.reduceLeDiff, Nat.reduceEqDiff, Nat.reduceBEq, Nat.zero_add, ne_eq, not_false_eq_true, true_and, and_true, and_self, implies_true, List.map_cons, List.map_nil, List.nil_append, List.cons_append, List.append_nil, Option.some.injEq, List.length_cons, List.length_nil, List.take_succ_cons, List.take_nil, List.drop_zero, ex_clo, or_self, tab3, tab72, hN, isPs_enc, toPs_enc, lk_spec_ringOf_spec_doubleArea, sp_spec_doubleArea, hw, ee, hm, hsz, hneg]
      repeat refine And.intro (by first | omega | (simp; done) | (simp; omega)) ?_
      refine ⟨i + 1, fun x => if x = 6 then 27 else x, by simp only []; omega, by simp only []; omega, ?_⟩
      simp [SLe, SLe0, convTm, convHp, convB, conv, conv0, lkT, lkH, clean]
      refine ⟨take_eq_of ?_, fun x a1 a2 a3 => by omega⟩
      rw [hst, ← encI_app, List.take_of_length_le (by omega)]
      rfl
  · have hie : i = l.length := by simp at h; omega
    subst hie
    have hv : ringN l l.length = ringL l := rfl
    rw [hv] at ee ⊢
    simp only [V_seq, V_ret, V_exit, V_region, W_nil, W_cons, effOp2, KN_seq, KXr_nil, KXe_nil, KXe_seq, KXe_block, KXe_back, QE, effOp, effPure, Option.isSome_some, pureV, strip, lkT, lkH, ISt.app, opI, gO, gB, allB, gval, wrapG, dstOK, setD, conv, conv0, Op.operands, reduceIte, reduceCtorEq, Nat.reduceLT, Nat.reduceEqDiff, true_and, and_true, and_self, implies_true, List.map_cons, List.map_nil, List.nil_append, List.cons_append, hN, FinH, resA, resV, SLe, SLe0, convTm, convHp, convB]
    exact ⟨fun x => if x = 0 then 6 else x, by simp; omega⟩
def hs_spec_ringOf : HSpec := ⟨[true], fun xs hp => match xs, hp with | [.sl 2 es], [] => (isPs es) ∧ ((fun (l : List Pt) => SmL l) (toPs es)) ∧ ((fun (l : List Pt) => l.length ≤ 1000000) (toPs es)) | _, _ => False, fun xs hp => match xs, hp with | [.sl 2 es], [] => (fun (l : List Pt) => (.ref 0 0 l.length true : IV)) (toPs es) | _, _ => .junk, fun xs hp => match xs, hp with | [.sl 2 es], [] => (fun (l : List Pt) => ([(0, .arr 1 3 (encI (ringL l)))] : List (Nat × IBlk))) (toPs es) | _, _ => []⟩
theorem hk_spec_ringOf : ∀ args hp, hs_spec_ringOf.pre args hp → HCall Try.prog 97 args (sm hp) (hs_spec_ringOf.val args hp) (sm (hs_spec_ringOf.hval args hp)) := by
  intro args hp h
  unfold hs_spec_ringOf at h ⊢; simp only at h ⊢; split at h
  · obtain ⟨h1, h2, h3⟩ := h; obtain ⟨l, rfl⟩ := isP_ex h1; rw [toPs_enc] at *; exact c_spec_ringOf l h2 h3
  · exact h.elim
theorem en_spec_ringOf : Enters Try.prog 97 := enters_of Try.func97 (by kernel_rfl) rfl

def g_spec_ringOf_v : List (Nat × PSpec) := [(49, sp_spec_doubleArea)]
theorem gok_spec_ringOf_v : GOK Try.prog g_spec_ringOf_v := gok_cons gk_spec_doubleArea en_spec_doubleArea (gok0)
theorem lk_spec_ringOf_v_spec_doubleArea : lkG g_spec_ringOf_v 49 = sp_spec_doubleArea := rfl
def h_spec_ringOf_v : List (Nat × HSpec) := []
theorem hok_spec_ringOf_v : HOK Try.prog h_spec_ringOf_v := hok0
theorem c_spec_ringOf_v (l : List Pt) (hm : SmL l) (hsz : l.length ≤ 1000000) : ICallF Try.prog 97 [.sl 2 (encPs l)] (.sl 1 (encI (ringL l))) := by
  exact icallF_ref (c_spec_ringOf l hm hsz) (by rw [len_encI, ringL, ringN_len]) (noSl_encI _)
def sp_spec_ringOf_v : PSpec := ⟨fun xs => match xs with | [.sl 2 les] => isPs les ∧ ((fun (l : List Pt) => SmL l) (toPs les)) ∧ ((fun (l : List Pt) => l.length ≤ 1000000) (toPs les)) | _ => False, fun xs => match xs with | [.sl _ les] => (fun (l : List Pt) => .sl 1 (encI (ringL l))) (toPs les) | _ => .junk, true⟩
theorem gk_spec_ringOf_v : ∀ args, sp_spec_ringOf_v.pre args → ICallF Try.prog 97 args (sp_spec_ringOf_v.val args) ∧ ∀ id, (sp_spec_ringOf_v.val args).ment id = false := by
  intro args h
  unfold sp_spec_ringOf_v at h ⊢; simp only at h ⊢; split at h
  · obtain ⟨h0, h1, h2⟩ := h
    obtain ⟨l0, rfl⟩ := isP_ex h0
    simp only [toPs_enc] at *
    exact ⟨c_spec_ringOf_v _ h1 h2, fun id => rfl⟩
  · exact h.elim
theorem en_spec_ringOf_v : Enters Try.prog 97 := enters_of Try.func97 (by kernel_rfl) rfl

/-- The first place of a number, or -1. -/
def plN (x : Int) : List Int → Nat → Int
  | [], _ => -1
  | y :: r, k => if y = x then (k : Int) else plN x r (k + 1)
theorem pl_step {x : Int} {r : List Int} {i : Nat} (h : i < r.length) : plN x (r.drop i) i = if iAt r i = x then (i : Int) else plN x (r.drop (i + 1)) (i + 1) := by
  have : r.drop i = iAt r i :: r.drop (i + 1) := by
    rw [List.drop_eq_getElem_cons h]; simp [iAt, List.getD, h]
  rw [this]; rfl
def g_spec_placeOf : List (Nat × PSpec) := []
theorem gok_spec_placeOf : GOK Try.prog g_spec_placeOf := gok0
def h_spec_placeOf : List (Nat × HSpec) := []
theorem hok_spec_placeOf : HOK Try.prog h_spec_placeOf := hok0
theorem c_spec_placeOf (r : List Int) (x : Int) (hsz : r.length ≤ 1000000) : ICall Try.prog 99 [.sl 1 (encI r), .num .i64 x] (.num .i64 (plN x r 0)) := by
  refine icall_V (G := g_spec_placeOf) (H := []) [] tabOK mixed gok_spec_placeOf hok_spec_placeOf Try.func99 rfl Try.ntmps99 Try.results99 rfl (by kernel_rfl) fun F hN hlen => ?_
  have el := len_encI r
  simp only [V_seq, V_block, V_region, W_nil, W_cons, effOp2, KN_seq, effOp, effPure, pureV, ofC, strip, ISt.app, opI, gO, gB, allB, gval, wrapG, dstOK, setD, enumT, Op.operands, Nat.reduceLT, Nat.zero_add, true_and, and_self, implies_true, List.nil_append, List.cons_append, List.append_nil, hN]
  refine V_loop (α := Nat) ⟨tabOK, mixed, gok_spec_placeOf, hok_spec_placeOf⟩ (by kernel_rfl) (fun i => i ≤ r.length ∧ plN x r 0 = plN x (r.drop i) i) (fun i => ⟨[(5, .num .i64 i), (0, .sl 1 (encI r)), (1, .num .i64 x)], []⟩) (fun i => r.length - i) 0 id ⟨Nat.zero_le _, rfl⟩ (by simp [SLe, SLe0, convTm, convHp, conv, conv0, lkT, lkH, clean]) ?_
  rintro i ⟨hi, hI⟩
  simp only [V_seq, V_region, V_cond, W_nil, W_cons, effOp2, KN_seq, asB, effOp, effPure, pureV, binV, lenV, strip, lkT, ISt.app, opI, gO, gB, allB, gval, wrapG, dstOK, setD, Op.operands, Call.operands, List.append_toArray, reduceIte, reduceCtorEq, Nat.reduceLT, Nat.reduceEqDiff, ne_eq, not_false_eq_true, true_and, and_self, implies_true, List.nil_append, List.cons_append, List.append_nil, tab72, hN, el]
  refine brW_some (fun h => ?_) (fun h => ?_)
  · have hi' : i < r.length := by simpa using h
    have g0 := getD_encI hi'
    have hw := wr_succ hi' (by rw [maxLen_eq]; omega)
    have hst := pl_step (x := x) hi'
    have ea : r.getD i 0 = iAt r i := rfl
    rw [ea] at g0
    simp only [V_seq, V_skip, V_block, V_region, V_cond, W_nil, W_cons, effOp2, KN_seq, asB, effOp, effPure, pureV, binV, eltV, loadV, iaddrV, strip, lkT, ISt.app, opI, gO, gB, allB, gval, wrapG, dstOK, setD, Op.operands, reduceIte, reduceCtorEq, Nat.reduceLT, Nat.reduceEqDiff, ne_eq, not_false_eq_true, true_and, and_true, and_self, implies_true, forall_const, List.nil_append, List.cons_append, List.append_nil, tab3, tab72, hN, Int.toNat_natCast, el, g0]
    repeat refine And.intro (by omega) ?_
    refine brW_some (fun h => ?_) (fun h => ?_)
    · have e : iAt r i = x := by simpa using h
      rw [if_pos e] at hst
      rw [hI, hst]
      simp only [V_seq, V_ret, V_region, W_nil, W_cons, effOp2, KN_seq, KXr_nil, KXr_seq, KXr_block, KXr_back, QE, effOp, effPure, pureV, strip, lkT, lkH, ISt.app, opI, gO, gB, allB, gval, wrapG, dstOK, setD, clean, Gives, Ideal.Fin, conv, conv0, Op.operands, reduceIte, reduceCtorEq, Nat.reduceLT, Nat.reduceEqDiff, and_self, implies_true, List.nil_append, List.cons_append, List.append_nil, hN]
      try omega
    · have e : ¬ iAt r i = x := by simpa using h
      rw [if_neg e] at hst
      simp only [V_skip, V_region, W_nil, W_cons, effOp2, KN_seq, KN_block, KN_back, effOp, effPure, pureV, binV, ofC, strip, lkT, ISt.app, opI, gO, gB, allB, gval, wrapG, dstOK, setD, Op.operands, reduceIte, reduceCtorEq, Nat.reduceLT, Nat.reduceEqDiff, true_and, and_self, implies_true, List.nil_append, List.cons_append, List.append_nil, hN, hw]
      exact ⟨i + 1, id, ⟨by omega, by rw [hI, hst]⟩, by simp only []; omega, by simp [SLe, SLe0, convTm, convHp, conv, conv0, lkT, lkH, clean]⟩
  · have hie : i = r.length := by simp at h; omega
    subst hie
    rw [List.drop_length] at hI
    have hv : plN x r 0 = -1 := hI
    simp only [V_seq, V_ret, V_exit, V_region, W_nil, W_cons, effOp2, KN_seq, KXr_nil, KXe_nil, KXe_seq, KXe_block, KXe_back, QE, effOp, effPure, pureV, ofC, strip, lkT, lkH, ISt.app, opI, gO, gB, allB, gval, wrapG, dstOK, setD, clean, Gives, Ideal.Fin, conv, conv0, Op.operands, reduceIte, reduceCtorEq, Nat.reduceLT, Nat.reduceEqDiff, and_self, implies_true, List.nil_append, List.cons_append, List.append_nil, hN, hv]
def sp_spec_placeOf : PSpec := ⟨fun xs => match xs with | [.sl 1 res, .num .i64 x] => isIs res ∧ ((fun (r : List Int) (x : Int) => r.length ≤ 1000000) (toIs res) x) | _ => False, fun xs => match xs with | [.sl _ res, .num _ x] => (fun (r : List Int) (x : Int) => .num .i64 (plN x r 0)) (toIs res) x | _ => .junk, false⟩
theorem gk_spec_placeOf : ∀ args, sp_spec_placeOf.pre args → ICall Try.prog 99 args (sp_spec_placeOf.val args) := by
  intro args h
  unfold sp_spec_placeOf at h ⊢; simp only at h ⊢; split at h
  · obtain ⟨h0, h1⟩ := h
    obtain ⟨l0, rfl⟩ := isI_ex h0
    simp only [toIs_enc] at *
    exact c_spec_placeOf _ _ h1
  · exact h.elim
theorem en_spec_placeOf : Enters Try.prog 99 := enters_of Try.func99 (by kernel_rfl) rfl

end Go.Proofs.Ytlcndghaendieaa
