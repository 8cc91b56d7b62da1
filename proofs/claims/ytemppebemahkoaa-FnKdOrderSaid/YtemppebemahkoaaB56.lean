/- Contracts: k-d trees (reference). -/
import Derived.Test.YtemppebemahkoaaB55
set_option linter.unusedVariables false
set_option linter.unusedSimpArgs false
set_option maxHeartbeats 16000000
set_option maxRecDepth 100000
namespace Go.Proofs.Ytemppebemahkoaa
open Go Go.Ideal Go.Pl Go.Sort

def axB (ax : Int) : Bool := ax == 1
def g_spec_beforeIn : List (Nat × PSpec) := [(212, sp_spec_pointLess)]
theorem gok_spec_beforeIn : GOK Try.prog g_spec_beforeIn := gok_cons gk_spec_pointLess en_spec_pointLess (gok0)
theorem lk_spec_beforeIn_spec_pointLess : lkG g_spec_beforeIn 212 = sp_spec_pointLess := rfl
def h_spec_beforeIn : List (Nat × HSpec) := []
theorem hok_spec_beforeIn : HOK Try.prog h_spec_beforeIn := hok0
theorem c_spec_beforeIn (l : List Pt) (ax : Int) (a : Int) (b : Int) (ha : 0 ≤ a ∧ a < l.length) (hb : 0 ≤ b ∧ b < l.length) : ICall Try.prog 153 [.sl 2 (encPs l), .num .i64 ax, .num .i64 a, .num .i64 b] (.bool (bfK l (axB ax) a.toNat b.toNat)) := by
  refine icall_V (G := g_spec_beforeIn) (H := []) [] tabOK mixed gok_spec_beforeIn hok_spec_beforeIn Try.func153 rfl Try.ntmps153 Try.results153 rfl (by kernel_rfl) fun F hN hlen => ?_
  have el := len_encPs l
  obtain ⟨i, rfl⟩ : ∃ i : Nat, a = i := ⟨a.toNat, by omega⟩
  obtain ⟨k, rfl⟩ : ∃ k : Nat, b = k := ⟨b.toNat, by omega⟩
  have g1 := getD_encPs (l := l) (i := i) (by omega)
  have g2 := getD_encPs (l := l) (i := k) (by omega)
  have hv : bfK l (axB ax) i k = (ltP (flipP (axB ax) (pAt l i)) (flipP (axB ax) (pAt l k)) || (flipP (axB ax) (pAt l i) == flipP (axB ax) (pAt l k) && decide (i < k))) := rfl
  have hd : decide (((i : Nat) : Int) < ((k : Nat) : Int)) = decide (i < k) := decide_eq_decide.2 (by omega)
  obtain ⟨p, hp⟩ : ∃ p, pAt l i = p := ⟨_, rfl⟩
  obtain ⟨q, hq⟩ : ∃ q, pAt l k = q := ⟨_, rfl⟩
  rw [hp] at g1 hv
  rw [hq] at g2 hv
  have hbe : ∀ x y : Pt, (x == y) = ((x.1 == y.1) && (x.2 == y.2)) := fun x y => rfl
  cases hx : (ax == 1) with
  | true =>
    have h1 : axB ax = true := hx
    rw [h1] at hv ⊢
    simp only [flipP, if_true] at hv
    cases c1 : ltP (p.2, p.1) (q.2, q.1) with
    | true =>
      rw [c1, Bool.true_or] at hv
      simp only [V_seq, V_ret, V_region, V_cond, brW_true, W_nil, W_cons, effOp2, KN_seq, KXr_nil, QE, asB, effOp, effPure, effPick, effNew, effAlloc, effStore, effCall, giveUp, hasAll, skipE, pureV, pickV, storeV, binV, partV, eltV, loadV, faddrV, iaddrV, over, solid, buildL, IV.cells, ofC, strip, lkT, lkH, ISt.app, opI, gO, gB, allB, gval, wrapG, dstOK, setD, mentTm, mentHp, IV.ment, IV.mentL, oneI, lendV, lendP, lent, lentP, idsV, idsL, lkHS, flat, clean, callArgs, callFn, allLent, enumT, Gives, Ideal.Fin, conv, conv0, IBlk.shape, eqL, numsOnly, Op.operands, reduceIte, reduceCtorEq, cond_true, Bool.or_false, Bool.and_true, Bool.false_and, Bool.and_eq_true, Bool.not_true, Nat.reduceAdd, Nat.reduceLT, Nat.reduceLeDiff, Nat.reduceEqDiff, Nat.reduceBEq, Nat.add_zero, Nat.zero_add, ne_eq, not_false_eq_true, true_and, and_true, false_and, and_false, and_self, false_implies, implies_true, forall_const, List.map_cons, List.map_nil, List.nil_append, List.cons_append, List.append_nil, List.all_cons, List.all_nil, Option.map_some, Option.bind_some, List.getElem?_cons_zero, List.getElem?_cons_succ, List.getD_cons_zero, List.getD_cons_succ, List.length_cons, List.length_nil, List.take_succ_cons, List.take_zero, List.take_nil, List.drop_succ_cons, List.drop_zero, List.drop_nil, ex_clo, btf, or_self, Bool.true_eq_false, Bool.false_eq_true, tab3, tab23, tab30, hN, Int.toNat_natCast, lk_spec_beforeIn_spec_pointLess, sp_spec_pointLess, el, g1, g2, hx, c1, hv, Int.toNat_natCast]
      repeat refine And.intro (by first | omega | (simp; done) | (simp; omega)) ?_
      omega
    | false =>
      rw [c1, Bool.false_or, hbe] at hv
      cases c2 : ((p.2 == q.2) && (p.1 == q.1)) with
      | true =>
        rw [c2, Bool.true_and] at hv
        rw [Bool.and_eq_true] at c2
        simp only [V_seq, V_ret, V_region, V_cond, brW_true, W_nil, W_cons, effOp2, KN_seq, KXr_nil, QE, asB, effOp, effPure, effPick, effNew, effAlloc, effStore, effCall, giveUp, hasAll, skipE, pureV, pickV, storeV, binV, partV, eltV, loadV, faddrV, iaddrV, over, solid, buildL, IV.cells, ofC, strip, lkT, lkH, ISt.app, opI, gO, gB, allB, gval, wrapG, dstOK, setD, mentTm, mentHp, IV.ment, IV.mentL, oneI, lendV, lendP, lent, lentP, idsV, idsL, lkHS, flat, clean, callArgs, callFn, allLent, enumT, Gives, Ideal.Fin, conv, conv0, IBlk.shape, eqL, numsOnly, Op.operands, reduceIte, reduceCtorEq, cond_true, cond_false, Bool.or_false, Bool.and_true, Bool.not_true, Nat.reduceAdd, Nat.reduceLT, Nat.reduceLeDiff, Nat.reduceEqDiff, Nat.reduceBEq, Nat.add_zero, Nat.zero_add, ne_eq, not_false_eq_true, beq_self_eq_true, true_and, and_true, and_false, and_self, implies_true, forall_const, List.map_cons, List.map_nil, List.nil_append, List.cons_append, List.append_nil, List.all_cons, List.all_nil, Option.map_some, Option.bind_some, List.getElem?_cons_zero, List.getElem?_cons_succ, List.getD_cons_zero, List.getD_cons_succ, List.length_cons, List.length_nil, List.take_succ_cons, List.take_zero, List.take_nil, List.drop_succ_cons, List.drop_zero, List.drop_nil, ex_clo, or_self, Bool.true_eq_false, Bool.false_eq_true, tab3, tab23, tab30, hN, Int.toNat_natCast, lk_spec_beforeIn_spec_pointLess, sp_spec_pointLess, el, g1, g2, hx, c1, c2.1, c2.2, hv, hd, Int.toNat_natCast]
        repeat refine And.intro (by first | omega | (simp; done) | (simp; omega)) ?_
        omega
      | false =>
        rw [c2, Bool.false_and] at hv
        simp only [V_seq, V_ret, V_region, V_cond, brW_true, W_nil, W_cons, effOp2, KN_seq, KXr_nil, QE, asB, effOp, effPure, effPick, effNew, effAlloc, effStore, effCall, giveUp, hasAll, skipE, pureV, pickV, storeV, binV, partV, eltV, loadV, faddrV, iaddrV, over, solid, buildL, IV.cells, ofC, strip, lkT, lkH, ISt.app, opI, gO, gB, allB, gval, wrapG, dstOK, setD, mentTm, mentHp, IV.ment, IV.mentL, oneI, lendV, lendP, lent, lentP, idsV, idsL, lkHS, flat, clean, callArgs, callFn, allLent, enumT, Gives, Ideal.Fin, conv, conv0, IBlk.shape, eqL, numsOnly, Op.operands, reduceIte, reduceCtorEq, cond_true, cond_false, Bool.or_false, Bool.and_true, Bool.and_false, Bool.not_true, Nat.reduceAdd, Nat.reduceLT, Nat.reduceLeDiff, Nat.reduceEqDiff, Nat.reduceBEq, Nat.add_zero, Nat.zero_add, ne_eq, not_false_eq_true, beq_self_eq_true, true_and, and_true, and_false, and_self, false_implies, implies_true, forall_const, List.map_cons, List.map_nil, List.nil_append, List.cons_append, List.append_nil, List.all_cons, List.all_nil, Option.map_some, Option.bind_some, List.getElem?_cons_zero, List.getElem?_cons_succ, List.getD_cons_zero, List.getD_cons_succ, List.length_cons, List.length_nil, List.take_succ_cons, List.take_zero, List.take_nil, List.drop_succ_cons, List.drop_zero, List.drop_nil, ex_clo, bft, or_self, Bool.false_eq_true, tab3, tab23, tab30, hN, Int.toNat_natCast, lk_spec_beforeIn_spec_pointLess, sp_spec_pointLess, el, g1, g2, hx, c1, c2, hv, hd, Int.toNat_natCast]
        repeat refine And.intro (by first | omega | (simp; done) | (simp; omega)) ?_
        omega
  | false =>
    have h1 : axB ax = false := hx
    rw [h1] at hv ⊢
    simp only [flipP, Bool.false_eq_true, if_false] at hv
    cases c1 : ltP p q with
    | true =>
      rw [c1, Bool.true_or] at hv
      simp only [V_seq, V_skip, V_ret, V_region, V_cond, brW_false, W_nil, W_cons, effOp2, KN_seq, KXr_nil, QE, asB, effOp, effPure, effPick, effNew, effAlloc, effStore, effCall, giveUp, hasAll, skipE, pureV, pickV, storeV, binV, partV, eltV, loadV, iaddrV, over, solid, IV.cells, ofC, strip, lkT, lkH, ISt.app, opI, gO, gB, allB, gval, wrapG, dstOK, setD, mentTm, mentHp, IV.ment, IV.mentL, oneI, lendV, lendP, lent, lentP, idsV, idsL, lkHS, flat, clean, callArgs, callFn, allLent, enumT, Gives, Ideal.Fin, conv, conv0, eqL, numsOnly, Op.operands, reduceIte, reduceCtorEq, cond_true, Bool.or_false, Bool.and_true, Bool.false_and, Bool.and_eq_true, Bool.not_true, Nat.reduceAdd, Nat.reduceLT, Nat.reduceLeDiff, Nat.reduceEqDiff, Nat.reduceBEq, Nat.zero_add, ne_eq, not_false_eq_true, true_and, and_true, false_and, and_false, and_self, false_implies, implies_true, forall_const, List.map_cons, List.map_nil, List.nil_append, List.cons_append, List.append_nil, List.all_cons, List.all_nil, Option.bind_some, List.getElem?_cons_zero, List.getElem?_cons_succ, List.getD_cons_zero, List.length_cons, List.length_nil, List.take_succ_cons, List.take_zero, List.take_nil, List.drop_succ_cons, List.drop_zero, List.drop_nil, ex_clo, btf, or_self, Bool.true_eq_false, Bool.false_eq_true, tab23, tab30, hN, pe, Int.toNat_natCast, lk_spec_beforeIn_spec_pointLess, sp_spec_pointLess, el, g1, g2, hx, c1, hv, Int.toNat_natCast]
      repeat refine And.intro (by first | omega | (simp; done) | (simp; omega)) ?_
      omega
    | false =>
      rw [c1, Bool.false_or, hbe] at hv
      cases c2 : ((p.1 == q.1) && (p.2 == q.2)) with
      | true =>
        rw [c2, Bool.true_and] at hv
        rw [Bool.and_eq_true] at c2
        simp only [V_seq, V_skip, V_ret, V_region, V_cond, brW_false, W_nil, W_cons, effOp2, KN_seq, KXr_nil, QE, asB, effOp, effPure, effPick, effNew, effAlloc, effStore, effCall, giveUp, hasAll, skipE, pureV, pickV, storeV, binV, partV, eltV, loadV, iaddrV, over, solid, IV.cells, ofC, strip, lkT, lkH, ISt.app, opI, gO, gB, allB, gval, wrapG, dstOK, setD, mentTm, mentHp, IV.ment, IV.mentL, oneI, lendV, lendP, lent, lentP, idsV, idsL, lkHS, flat, clean, callArgs, callFn, allLent, enumT, Gives, Ideal.Fin, conv, conv0, eqL, numsOnly, Op.operands, reduceIte, reduceCtorEq, cond_true, cond_false, Bool.or_false, Bool.and_true, Bool.not_true, Nat.reduceAdd, Nat.reduceLT, Nat.reduceLeDiff, Nat.reduceEqDiff, Nat.reduceBEq, Nat.zero_add, ne_eq, not_false_eq_true, beq_self_eq_true, true_and, and_true, and_false, and_self, implies_true, forall_const, List.map_cons, List.map_nil, List.nil_append, List.cons_append, List.append_nil, List.all_cons, List.all_nil, Option.bind_some, List.getElem?_cons_zero, List.getElem?_cons_succ, List.getD_cons_zero, List.length_cons, List.length_nil, List.take_succ_cons, List.take_zero, List.take_nil, List.drop_succ_cons, List.drop_zero, List.drop_nil, ex_clo, or_self, Bool.true_eq_false, Bool.false_eq_true, tab23, tab30, hN, pe, Int.toNat_natCast, lk_spec_beforeIn_spec_pointLess, sp_spec_pointLess, el, g1, g2, hx, c1, c2.1, c2.2, hv, hd, Int.toNat_natCast]
        repeat refine And.intro (by first | omega | (simp; done) | (simp; omega)) ?_
        omega
      | false =>
        rw [c2, Bool.false_and] at hv
        simp only [V_seq, V_skip, V_ret, V_region, V_cond, brW_false, W_nil, W_cons, effOp2, KN_seq, KXr_nil, QE, asB, effOp, effPure, effPick, effNew, effAlloc, effStore, effCall, giveUp, hasAll, skipE, pureV, pickV, storeV, binV, partV, eltV, loadV, iaddrV, over, solid, IV.cells, ofC, strip, lkT, lkH, ISt.app, opI, gO, gB, allB, gval, wrapG, dstOK, setD, mentTm, mentHp, IV.ment, IV.mentL, oneI, lendV, lendP, lent, lentP, idsV, idsL, lkHS, flat, clean, callArgs, callFn, allLent, enumT, Gives, Ideal.Fin, conv, conv0, eqL, numsOnly, Op.operands, reduceIte, reduceCtorEq, cond_true, cond_false, Bool.or_false, Bool.and_true, Bool.and_false, Bool.not_true, Nat.reduceAdd, Nat.reduceLT, Nat.reduceLeDiff, Nat.reduceEqDiff, Nat.reduceBEq, Nat.zero_add, ne_eq, not_false_eq_true, beq_self_eq_true, true_and, and_true, and_false, and_self, false_implies, implies_true, forall_const, List.map_cons, List.map_nil, List.nil_append, List.cons_append, List.append_nil, List.all_cons, List.all_nil, Option.bind_some, List.getElem?_cons_zero, List.getElem?_cons_succ, List.getD_cons_zero, List.length_cons, List.length_nil, List.take_succ_cons, List.take_zero, List.take_nil, List.drop_succ_cons, List.drop_zero, List.drop_nil, ex_clo, bft, or_self, Bool.false_eq_true, tab23, tab30, hN, pe, Int.toNat_natCast, lk_spec_beforeIn_spec_pointLess, sp_spec_pointLess, el, g1, g2, hx, c1, c2, hv, hd, Int.toNat_natCast]
        repeat refine And.intro (by first | omega | (simp; done) | (simp; omega)) ?_
        omega
def sp_spec_beforeIn : PSpec := ⟨fun xs => match xs with | [.sl 2 les, .num .i64 ax, .num .i64 a, .num .i64 b] => isPs les ∧ ((fun (l : List Pt) (ax : Int) (a : Int) (b : Int) => 0 ≤ a ∧ a < l.length) (toPs les) ax a b) ∧ ((fun (l : List Pt) (ax : Int) (a : Int) (b : Int) => 0 ≤ b ∧ b < l.length) (toPs les) ax a b) | _ => False, fun xs => match xs with | [.sl _ les, .num _ ax, .num _ a, .num _ b] => (fun (l : List Pt) (ax : Int) (a : Int) (b : Int) => .bool (bfK l (axB ax) a.toNat b.toNat)) (toPs les) ax a b | _ => .junk, false⟩
theorem gk_spec_beforeIn : ∀ args, sp_spec_beforeIn.pre args → ICall Try.prog 153 args (sp_spec_beforeIn.val args) := by
  intro args h
  unfold sp_spec_beforeIn at h ⊢; simp only at h ⊢; split at h
  · obtain ⟨h0, h1, h2⟩ := h
    obtain ⟨l0, rfl⟩ := isP_ex h0
    simp only [toPs_enc] at *
    exact c_spec_beforeIn _ _ _ _ h1 h2
  · exact h.elim
theorem en_spec_beforeIn : Enters Try.prog 153 := enters_of Try.func153 (by kernel_rfl) rfl

/-! the function that calls itself -/
def g_kdr : List (Nat × PSpec) := [(153, sp_spec_beforeIn)]
theorem gok_kdr : GOK Try.prog g_kdr := gok_cons gk_spec_beforeIn en_spec_beforeIn (gok0)
theorem lk_kdr_spec_beforeIn : lkG g_kdr 153 = sp_spec_beforeIn := rfl
def h_kdr : List (Nat × HSpec) := []
theorem hok_kdr : HOK Try.prog h_kdr := hok0
def hsKdR (m : Nat) : HSpec := ⟨[true, true, false, false],
  fun xs hp => match xs, hp with
    | [.sl 2 les, .sl 1 es, .num .i64 ax, .ref 1000 0 no true], [(1000, .arr 1 ty os)] =>
      es.length < m ∧ isPs les ∧ isNs es ∧ isNs os ∧ ty = 3 ∧ no = os.length ∧ (ax = 0 ∨ ax = 1) ∧ (∀ x ∈ toNs es, x < (toPs les).length) ∧ es.length ≤ 20 ∧ os.length + es.length ≤ 1000
    | _, _ => False,
  fun xs hp => match xs, hp with
    | [.sl 2 les, .sl 1 es, .num .i64 ax, .ref 1000 0 no true], [(1000, .arr 1 ty os)] => .ref 0 0 (os.length + es.length) true
    | _, _ => .junk,
  fun xs hp => match xs, hp with
    | [.sl 2 les, .sl 1 es, .num .i64 ax, .ref 1000 0 no true], [(1000, .arr 1 ty os)] => [(0, .arr 1 3 (encN (toNs os ++ kdP (toPs les) (axB ax) (toNs es))))]
    | _, _ => []⟩
theorem hsKdR_mask (m : Nat) : (hsKdR m).mask = [true, true, false, false] := rfl
theorem hsKdR_pre (m no ty : Nat) (ax : Int) (les es os : List IV) : (hsKdR m).pre [.sl 2 les, .sl 1 es, .num .i64 ax, .ref 1000 0 no true] [(1000, .arr 1 ty os)] =
  (es.length < m ∧ isPs les ∧ isNs es ∧ isNs os ∧ ty = 3 ∧ no = os.length ∧ (ax = 0 ∨ ax = 1) ∧ (∀ x ∈ toNs es, x < (toPs les).length) ∧ es.length ≤ 20 ∧ os.length + es.length ≤ 1000) := rfl
theorem hsKdR_val (m no ty : Nat) (ax : Int) (les es os : List IV) : (hsKdR m).val [.sl 2 les, .sl 1 es, .num .i64 ax, .ref 1000 0 no true] [(1000, .arr 1 ty os)] = .ref 0 0 (os.length + es.length) true := rfl
theorem hsKdR_hval (m no ty : Nat) (ax : Int) (les es os : List IV) : (hsKdR m).hval [.sl 2 les, .sl 1 es, .num .i64 ax, .ref 1000 0 no true] [(1000, .arr 1 ty os)] = [(0, .arr 1 3 (encN (toNs os ++ kdP (toPs les) (axB ax) (toNs es))))] := rfl
theorem en_kdr : Enters Try.prog 77 := enters_of Try.func77 (by kernel_rfl) rfl
theorem kdr_call : ∀ (m : Nat) (idx : List Nat), idx.length < m → ∀ (l : List Pt) (ax : Int) (O : List Nat), (ax = 0 ∨ ax = 1) → (∀ x ∈ idx, x < l.length) → idx.length ≤ 20 → O.length + idx.length ≤ 1000 →
    HCall Try.prog 77 [.sl 2 (encPs l), .sl 1 (encN idx), .num .i64 ax, .ref 1000 0 O.length true] (sm [(1000, .arr 1 3 (encN O))]) (.ref 0 0 (O.length + idx.length) true) (sm [(0, .arr 1 3 (encN (O ++ kdP l (axB ax) idx)))]) := by
  intro m
  induction m with
  | zero => intro idx h; omega
  | succ m ih =>
    intro idx hnm l ax O hax hL hLs hO
    have hH : HOK Try.prog ((77, hsKdR m) :: h_kdr) := by
      refine hok_cons (fun args hp h => ?_) en_kdr hok_kdr
      unfold hsKdR at h ⊢; simp only at h ⊢; split at h
      · obtain ⟨k1, k2, ⟨L', rfl⟩, ⟨O', rfl⟩, rfl, rfl, k3, k4, k5, k6⟩ := h
        obtain ⟨l', rfl⟩ := isP_ex k2
        simp only [toNs_enc, toPs_enc, len_encN] at *
        exact ih L' k1 l' _ O' k3 k4 k5 k6
      · exact h.elim
    refine hcall_V (G := g_kdr) (H := (77, hsKdR m) :: h_kdr) [(8, [(0, 14), (1, 14), (5, 14), (6, 14), (7, 14), (9, 14), (10, 14), (11, 14), (12, 14)])] tabOK mixed gok_kdr hH Try.func77 rfl Try.ntmps77 Try.results77 rfl (by kernel_rfl) fun F hN hlen => ?_
    simp only [sm]
    have ei := len_encN idx
    have eO := len_encN O
    have T : ∀ (M : List Nat) (k : Nat), M.length = k → encN M = (encN M).take k := fun M k h => (List.take_of_length_le (by rw [len_encN]; omega)).symm
    rcases Nat.eq_zero_or_pos idx.length with h0 | h0
    · have : idx = [] := List.eq_nil_of_length_eq_zero h0
      subst this
      have z2 : O ++ kdP l (axB ax) [] = O := by rw [kdP_nil, List.append_nil]
      have d0 : (((0 : Nat) : Int) == 0) = true := rfl
      have eN : (encN []).length = 0 := rfl
      simp only [V_seq, V_ret, V_region, V_cond, brW_true, W_nil, W_cons, effOp2, KN_seq, KXr_nil, KXr_seq, QE, asB, effOp, effPure, Option.isSome_some, pureV, binV, lenV, ofC, strip, lkT, lkH, ISt.app, opI, gO, gB, allB, gval, wrapG, dstOK, setD, enumT, conv, conv0, Op.operands, Call.operands, List.append_toArray, reduceIte, reduceCtorEq, Nat.reduceAdd, Nat.reduceLT, Nat.reduceEqDiff, Nat.add_zero, Nat.zero_add, ne_eq, not_false_eq_true, true_and, and_true, and_self, implies_true, List.map_cons, List.map_nil, List.nil_append, List.cons_append, List.length_nil, tab25, hN, FinH, resA, resV, SLe, SLe0, convTm, convHp, convB, z2, eN, d0]
      refine ⟨fun z => if z = 0 then 1000 else z, ?_⟩
      simp [eO]
      exact ⟨T _ _ rfl, fun id h1 _ _ => by omega⟩
    · have d0 : (((idx.length : Nat) : Int) == 0) = false := by rw [beq_eq_false_iff_ne]; omega
      have hkn : lkHS h_kdr 153 = none := rfl
      obtain ⟨t, ht⟩ : ∃ t, axB ax = t := ⟨_, rfl⟩
      simp only [V_seq, V_skip, V_block, V_region, V_cond, brW_false, W_nil, W_cons, effOp2, KN_seq, asB, effOp, effPure, effNew, effBuildSlice, effFrz, frz, tmpsOf, skipE, pureV, binV, lenV, ofC, strip, lkT, ISt.app, opI, gO, gB, allB, gval, wrapG, dstOK, setD, mentTm, mentHp, IV.ment, partsL, eltsI, enumT, Op.operands, Call.operands, List.append_toArray, reduceIte, reduceCtorEq, cond_true, Bool.or_false, Nat.reduceAdd, Nat.reduceMul, Nat.reduceLT, Nat.reduceLeDiff, Nat.reduceEqDiff, Nat.reduceBEq, Nat.zero_add, ne_eq, not_false_eq_true, true_and, and_self, implies_true, List.nil_append, List.cons_append, List.append_nil, List.length_nil, tab3, tab25, hN, ei, d0]
      refine V_loop (α := Nat) ⟨tabOK, mixed, gok_kdr, hH⟩ (by kernel_rfl) (fun i => i ≤ idx.length) (fun i => ⟨[(10, .num .i64 i), (9, .ref 18 0 i true), (0, .sl 2 (encPs l)), (1, .sl 1 (encN idx)), (2, .num .i64 ax), (3, .ref 1000 0 O.length true)], [(18, some (.arr 1 3 (encN (ordB (bfK l t) 0 idx i)))), (1000, some (.arr 1 3 (encN O)))]⟩) (fun i => idx.length - i) 0 id (Nat.zero_le _) (by simp [SLe, SLe0, convTm, convHp, convB, conv, conv0, lkT, lkH, clean, ordB, encN_nil]) ?_
      intro i hi
      have hperm := ord_perm (lt := bfK l t) (d := 0) idx i hi
      have hLl := hperm.length_eq
      rw [List.length_take, show min i idx.length = i by omega] at hLl
      have hLm : ∀ y ∈ ordB (bfK l t) 0 idx i, y < l.length := fun y hy => hL y (List.mem_of_mem_take (hperm.mem_iff.1 hy))
      have hnext : ordB (bfK l t) 0 idx (i + 1) = putB (bfK l t) 0 (ordB (bfK l t) 0 idx i) (nAt idx i) := rfl
      have hend : i = idx.length → ordB (bfK l t) 0 idx i = srtK l t idx := fun e => by rw [e]; exact ord_sort (tot_bfK l t) idx
      obtain ⟨L, hLe⟩ : ∃ L, ordB (bfK l t) 0 idx i = L := ⟨_, rfl⟩
      rw [hLe] at hLl hLm hnext hend
      simp only [hLe]
      have eL := len_encN L
      rw [hLl] at eL
      have hx : ∃ k ty es, IBlk.arr 1 3 (encN L) = IBlk.arr k ty es := ⟨_, _, _, rfl⟩
      simp only [V_seq, V_region, V_cond, W_nil, W_cons, effOp2, KN_seq, asB, effOp, effPure, pureV, binV, lenV, strip, lkT, ISt.app, opI, gO, gB, allB, gval, wrapG, dstOK, setD, Op.operands, Call.operands, List.append_toArray, reduceIte, reduceCtorEq, Nat.reduceLT, Nat.reduceEqDiff, ne_eq, not_false_eq_true, true_and, and_self, implies_true, List.nil_append, List.cons_append, tab25, hN, ei]
      refine brW_some (fun h => ?_) (fun h => ?_)
      · have hi' : i < idx.length := by simpa using h
        have g := getD_encN hi'
        have hw := wr_succ hi' (by rw [maxLen_eq]; omega)
        have hxl : nAt idx i < l.length := hL _ (by simp [nAt, List.getD, hi'])
        obtain ⟨x, hxe⟩ : ∃ x, nAt idx i = x := ⟨_, rfl⟩
        rw [hxe] at g hxl hnext
        simp only [V_seq, V_skip, V_block, V_region, W_nil, W_cons, effOp2, KN_seq, effOp, effPure, pureV, lenV, strip, lkT, ISt.app, opI, gO, gB, allB, gval, wrapG, dstOK, setD, Op.operands, Call.operands, List.append_toArray, reduceIte, reduceCtorEq, Nat.reduceLT, Nat.reduceEqDiff, ne_eq, not_false_eq_true, true_and, and_self, implies_true, List.nil_append, List.cons_append, tab25, hN]
        refine V_loop (α := Nat) ⟨tabOK, mixed, gok_kdr, hH⟩ (by kernel_rfl) (fun k => k ≤ i ∧ posB (bfK l t) 0 L x i = posB (bfK l t) 0 L x k) (fun k => ⟨[(11, .num .i64 k), (10, .num .i64 i), (9, .ref 18 0 i true), (0, .sl 2 (encPs l)), (1, .sl 1 (encN idx)), (2, .num .i64 ax), (3, .ref 1000 0 O.length true)], [(18, some (.arr 1 3 (encN L))), (1000, some (.arr 1 3 (encN O)))]⟩) (fun k => k) i id ⟨Nat.le_refl _, rfl⟩ (by simp [SLe, SLe0, convTm, convHp, convB, conv, conv0, lkT, lkH, clean]) ?_
        rintro k ⟨hk, hp⟩
        have e1 : (encN L).take k ++ [.num .i64 ((x : Nat) : Int)] = encN (L.take k ++ [x]) := by rw [encN_take, encN_one, encN_app]
        have e2 : encN (L.take k ++ [x]) ++ (encN L).drop k = encN (L.take k ++ x :: L.drop k) := by rw [encN_drop, encN_app]; simp
        have q1 : ((encN L).take k).take k = (encN L).take k := List.take_of_length_le (by rw [List.length_take]; omega)
        have lk : ((encN L).take k).length = k := by rw [List.length_take]; omega
        have ln1 : (encN (L.take k ++ [x])).length = k + 1 := by rw [len_encN, List.length_append, List.length_take, List.length_singleton]; omega
        have tk2 : (encN (L.take k ++ [x])).take (k + 1) = encN (L.take k ++ [x]) := List.take_of_length_le (by omega)
        have ld : ((encN L).drop k).length = i - k := by rw [List.length_drop]; omega
        have ln2 : (encN (L.take k ++ x :: L.drop k)).length = k + 1 + (i - k) := by rw [len_encN, List.length_append, List.length_take, List.length_cons, List.length_drop]; omega
        have td : ((encN L).drop k).take (i - k) = (encN L).drop k := List.take_of_length_le (by omega)
        rcases Nat.eq_zero_or_pos k with hk0 | hk0
        · have c0 : decide (0 < ((k : Nat) : Int)) = false := by simp; omega
          have w0 : IntKind.i64.wrap (((k : Nat) : Int) - 1) = -1 := by rw [hk0]; rfl
          have hpk : posB (bfK l t) 0 L x i = k := by rw [hp, hk0]; rfl
          have hput : encN (L.take k ++ x :: L.drop k) = encN (ordB (bfK l t) 0 idx (i + 1)) := by rw [hnext, putB, hLl, hpk]
          have gg : (∃ v, (encN L).getD (Int.toNat (-1)) .junk = .num .i64 v) ∨ (encN L).getD (Int.toNat (-1)) .junk = .junk := by
            rcases Nat.eq_zero_or_pos L.length with z | z
            · right; rw [List.eq_nil_of_length_eq_zero z]; rfl
            · left; exact ⟨_, getD_encN (L := L) (i := 0) z⟩
          rcases gg with ⟨v, gg⟩ | gg
          all_goals
            simp only [V_seq, V_ret, V_exit, V_region, V_draw, V_cond, brW_false, drawW, WS_nil, pairsOf, W_nil, W_cons, effOp2, effOp3, WI_nil, WI_cons, KN_seq, KN_block, KN_back, KXr_nil, KXe_nil, KXe_seq, KXe_block, KXe_back, QE, dynOK, indB, farB, freshB, freshK, freshK1, heapy, asB, effOp, effPure, effPick, effNew, effBuildSlice, effFrz, frz, tmpsOf, effAppend, effZeros, effCall, giveUp, hasAll, Option.isSome_some, skipE, pureV, pickV, srcV, refId, binV, partV, eltV, loadV, iaddrV, sliceV, lenV, ofC, strip, lkT, lkH, ISt.app, opI, gO, gB, allB, gval, wrapG, dstOK, setD, mentTm, mentHp, IV.ment, partsL, eltsI, eltI, noId', lendV, lendP, lent, lentP, idsV, idsL, lkHS, flat, clean, callArgs, callFn, allLent, conv, conv0, Op.operands, Call.operands, List.append_toArray, Array.append_empty, Option.toArray_none, Option.toArray_some, reduceIte, reduceCtorEq, cond_true, cond_false, Bool.or_false, Bool.or_true, Bool.false_or, Bool.and_true, Bool.and_eq_true, Bool.not_false, Nat.reduceMul, Nat.reduceLT, Nat.reduceLeDiff, Nat.reduceEqDiff, Nat.reduceBEq, Nat.zero_add, ne_eq, not_false_eq_true, true_and, and_true, false_and, and_false, and_self, false_implies, implies_true, forall_const, List.map_cons, List.map_nil, List.nil_append, List.cons_append, List.append_nil, Option.some.injEq, Option.map_some, Option.map_none, Option.bind_some, List.getElem?_cons_zero, List.getElem?_cons_succ, List.getD_cons_zero, List.getD_cons_succ, List.length_cons, List.length_nil, List.take_succ_cons, List.take_zero, List.take_nil, List.drop_zero, ex_clo, bft, or_true, or_self, Bool.false_eq_true, tab3, tab25, hN, Int.toNat_natCast, isPs_enc, toPs_enc, FinH, resA, resV, SLe, SLe0, convTm, convHp, convB, lk_kdr_spec_beforeIn, sp_spec_beforeIn, c0, g, hkn, gg, w0, hw, ei, eL, e1, e2, q1, lk, ln1, tk2, ld, td]
            repeat refine And.intro (by first | omega | (simp; done) | (simp; omega)) ?_
            refine ⟨i + 1, fun z => if z = 18 then 61 else z, by simp only []; omega, by simp only []; omega, ?_⟩
            simp only [← hput]
            simp [SLe, SLe0, convTm, convHp, convB, conv, conv0, lkT, lkH, clean]
            exact ⟨by omega, fun id h1 _ _ => by omega⟩
        · obtain ⟨j, hj⟩ : ∃ j, k = j + 1 := ⟨k - 1, by omega⟩
          have c0 : decide (0 < ((k : Nat) : Int)) = true := by simp; omega
          have w1 : IntKind.i64.wrap (((k : Nat) : Int) - 1) = ((j : Nat) : Int) := by rw [wr (by omega) (by omega)]; omega
          have g2 := getD_encN (L := L) (i := j) (by omega)
          have hyl : nAt L j < l.length := hLm _ (by simp [nAt, List.getD, show j < L.length by omega])
          have hps : posB (bfK l t) 0 L x k = if bfK l t x (nAt L j) then posB (bfK l t) 0 L x j else k := by rw [hj, posB]
          obtain ⟨y, hye⟩ : ∃ y, nAt L j = y := ⟨_, rfl⟩
          rw [hye] at g2 hyl hps
          cases c1 : bfK l t x y with
          | true =>
            rw [c1, if_pos rfl] at hps
            simp only [V_seq, V_skip, V_block, V_region, V_draw, V_cond, brW_true, drawW, WS_nil, pairsOf, W_nil, W_cons, effOp2, effOp3, WI_nil, WI_cons, KN_seq, KN_block, KN_back, dynOK, indB, farB, freshB, freshK, freshK1, heapy, asB, effOp, effPure, effPick, effCall, giveUp, hasAll, pureV, pickV, binV, eltV, loadV, iaddrV, ofC, strip, lkT, lkH, ISt.app, opI, gO, gB, allB, gval, wrapG, dstOK, setD, mentTm, mentHp, IV.ment, lendV, lendP, lent, lentP, idsV, idsL, lkHS, flat, clean, callArgs, callFn, allLent, Op.operands, Call.operands, List.append_toArray, reduceIte, reduceCtorEq, cond_true, cond_false, Bool.or_false, Bool.and_true, Bool.and_eq_true, Bool.not_true, Bool.not_false, Nat.reduceLT, Nat.reduceEqDiff, Nat.reduceBEq, Nat.zero_add, ne_eq, not_false_eq_true, beq_self_eq_true, true_and, and_true, and_self, implies_true, forall_const, List.map_cons, List.map_nil, List.nil_append, List.cons_append, List.append_nil, Option.bind_some, List.getElem?_cons_zero, List.getElem?_cons_succ, List.getD_cons_zero, List.getD_cons_succ, List.take_zero, List.drop_zero, ex_clo, or_self, Bool.true_eq_false, tab3, tab25, hN, Int.toNat_natCast, isPs_enc, toPs_enc, lk_kdr_spec_beforeIn, sp_spec_beforeIn, c0, g, g2, w1, ei, eL, ht, c1, hkn, Int.toNat_natCast]
            repeat refine And.intro (by first | omega | (simp; done) | (simp; omega)) ?_
            exact ⟨j, id, ⟨by omega, by rw [hp, hps]⟩, by simp only []; omega, by simp [SLe, SLe0, convTm, convHp, convB, conv, conv0, lkT, lkH, clean]⟩
          | false =>
            rw [c1, if_neg (by decide)] at hps
            have hput : encN (L.take k ++ x :: L.drop k) = encN (ordB (bfK l t) 0 idx (i + 1)) := by rw [hnext, putB, hLl, hp, hps]
            simp only [V_seq, V_ret, V_exit, V_region, V_draw, V_cond, brW_false, drawW, WS_nil, pairsOf, W_nil, W_cons, effOp2, effOp3, WI_nil, WI_cons, KN_seq, KN_block, KN_back, KXr_nil, KXe_nil, KXe_seq, KXe_block, KXe_back, QE, dynOK, indB, farB, freshB, freshK, freshK1, heapy, asB, effOp, effPure, effPick, effNew, effBuildSlice, effFrz, frz, tmpsOf, effAppend, effZeros, effCall, giveUp, hasAll, Option.isSome_some, skipE, pureV, pickV, srcV, refId, binV, partV, eltV, loadV, iaddrV, sliceV, lenV, ofC, strip, lkT, lkH, ISt.app, opI, gO, gB, allB, gval, wrapG, dstOK, setD, mentTm, mentHp, IV.ment, partsL, eltsI, eltI, noId', lendV, lendP, lent, lentP, idsV, idsL, lkHS, flat, clean, callArgs, callFn, allLent, conv, conv0, Op.operands, Call.operands, List.append_toArray, Array.append_empty, Option.toArray_none, Option.toArray_some, reduceIte, reduceCtorEq, cond_true, cond_false, Bool.or_false, Bool.false_or, Bool.and_true, Bool.and_eq_true, Bool.not_true, Bool.not_false, Nat.reduceMul, Nat.reduceLT, Nat.reduceLeDiff, Nat.reduceEqDiff, Nat.reduceBEq, Nat.zero_add, ne_eq, not_false_eq_true, beq_self_eq_true, true_and, and_true, false_and, and_false, and_self, false_implies, implies_true, forall_const, List.map_cons, List.map_nil, List.nil_append, List.cons_append, List.append_nil, Option.some.injEq, Option.map_some, Option.map_none, Option.bind_some, List.getElem?_cons_zero, List.getElem?_cons_succ, List.getD_cons_zero, List.getD_cons_succ, List.length_cons, List.length_nil, List.take_succ_cons, List.take_zero, List.take_nil, List.drop_zero, ex_clo, or_self, Bool.true_eq_false, tab3, tab25, hN, Int.toNat_natCast, isPs_enc, toPs_enc, FinH, resA, resV, SLe, SLe0, convTm, convHp, convB, lk_kdr_spec_beforeIn, sp_spec_beforeIn, c0, g, g2, hw, w1, ei, eL, ht, c1, hkn, e1, e2, q1, lk, ln1, tk2, ld, td, Int.toNat_natCast]
            repeat refine And.intro (by first | omega | (simp; done) | (simp; omega)) ?_
            refine ⟨i + 1, fun z => if z = 18 then 61 else z, by simp only []; omega, by simp only []; omega, ?_⟩
            simp only [← hput]
            simp [SLe, SLe0, convTm, convHp, convB, conv, conv0, lkT, lkH, clean]
            exact ⟨by omega, fun id h1 _ _ => by omega⟩
      · have hie : i = idx.length := by simp at h; omega
        have hS := hend hie
        have hsl := srtK_len l t idx
        have hk := kdP_step l t h0
        have hSp := srtK_perm l t idx
        have hq := kd_quo i (by omega)
        rw [← hS] at hk hSp
        rw [← hie] at hk
        have g := getD_encN (L := L) (i := i / 2) (by omega)
        have hxx : L.getD (i / 2) 0 = nAt L (i / 2) := rfl
        rw [hxx] at hk
        obtain ⟨x, hxe⟩ : ∃ x, nAt L (i / 2) = x := ⟨_, rfl⟩
        rw [hxe] at g hk
        have a1 : (encN O).take O.length ++ [.num .i64 ((x : Nat) : Int)] = encN (O ++ [x]) := by rw [take_encN]; exact encN_app O [x]
        have a2 : (encN (O ++ [x])).length = O.length + 1 := by rw [len_encN, List.length_append]; rfl
        have w1 : IntKind.i64.wrap (((i / 2 : Nat) : Int) + 1) = ((i / 2 + 1 : Nat) : Int) := by rw [wr (by omega) (by omega)]; omega
        have w2 : IntKind.i64.wrap (1 - ax) = 1 - ax := wr (by omega) (by omega)
        have hax2 : axB (1 - ax) = !t := by
          rw [← ht]
          rcases hax with rfl | rfl <;> rfl
        have hax3 : 1 - ax = 0 ∨ 1 - ax = 1 := by omega
        have s1 : (encN L).take (i / 2) = encN (L.take (i / 2)) := encN_take L _
        have s2 : ((encN L).drop (i / 2 + 1)).take (i - (i / 2 + 1)) = encN (L.drop (i / 2 + 1)) := by
          rw [List.take_of_length_le (by rw [List.length_drop]; omega), encN_drop]
        have l1 : (encN (L.take (i / 2))).length = i / 2 := by rw [len_encN, List.length_take]; omega
        have l2 : (encN (L.drop (i / 2 + 1))).length = i - (i / 2 + 1) := by rw [len_encN, List.length_drop]; omega
        have k1 := kdP_len l (!t) (L.take (i / 2))
        have k2 := kdP_len l (!t) (L.drop (i / 2 + 1))
        rw [List.length_take] at k1
        rw [List.length_drop] at k2
        have m1 : ∀ y ∈ L.take (i / 2), y < l.length := fun y hy => hLm y (List.mem_of_mem_take hy)
        have m2 : ∀ y ∈ L.drop (i / 2 + 1), y < l.length := fun y hy => hLm y (List.mem_of_mem_drop hy)
        obtain ⟨A, hA⟩ : ∃ A, kdP l (!t) (L.take (i / 2)) = A := ⟨_, rfl⟩
        obtain ⟨B, hB⟩ : ∃ B, kdP l (!t) (L.drop (i / 2 + 1)) = B := ⟨_, rfl⟩
        rw [hA] at k1 hk
        rw [hB] at k2 hk
        have b2 : (encN (O ++ [x] ++ A)).length = O.length + 1 + i / 2 := by rw [len_encN, List.length_append, List.length_append, k1]; simp; omega
        have b3 : (O ++ [x] ++ A).length = O.length + 1 + i / 2 := by rw [← len_encN (O ++ [x] ++ A)]; exact b2
        have b4 : (O ++ [x]).length = O.length + 1 := by rw [← len_encN (O ++ [x])]; exact a2
        have hfin : O ++ [x] ++ A ++ B = O ++ kdP l t idx := by rw [hk]; simp
        simp only [V_seq, V_ret, V_exit, V_region, W_nil, W_cons, effOp2, KN_seq, KXr_nil, KXe_nil, KXe_seq, KXe_block, KXe_back, QE, effOp, effPure, effNew, effBuildSlice, effFrz, frz, tmpsOf, effAppend, effZeros, Option.isSome_some, skipE, pureV, srcV, refId, binV, eltV, loadV, iaddrV, sliceV, lenV, ofC, strip, lkT, lkH, ISt.app, opI, gO, gB, allB, gval, wrapG, dstOK, setD, mentTm, mentHp, IV.ment, partsL, eltsI, eltI, noId', lendV, lendP, lent, lentP, idsV, idsL, lkHS, clean, callArgs, callFn, enumT, conv, conv0, IBlk.shape, Op.operands, Call.operands, List.append_toArray, Array.append_empty, Option.toArray_none, Option.toArray_some, reduceIte, reduceCtorEq, cond_true, cond_false, Bool.or_false, Bool.and_true, Bool.not_false, Nat.reduceAdd, Nat.reduceSub, Nat.reduceMul, Nat.reduceLT, Nat.reduceLeDiff, Nat.reduceEqDiff, Nat.reduceBEq, Nat.add_zero, Nat.zero_add, ne_eq, not_false_eq_true, true_and, and_true, and_false, and_self, implies_true, forall_const, List.map_cons, List.map_nil, List.nil_append, List.cons_append, List.append_nil, List.all_cons, List.all_nil, Option.some.injEq, Option.map_some, Option.map_none, List.getD_cons_zero, List.length_cons, List.length_nil, List.take_succ_cons, List.take_nil, List.drop_zero, ex_clo, tab3, tab25, hN, Int.toNat_natCast, isPs_enc, toPs_enc, FinH, resA, resV, SLe, SLe0, convTm, convHp, convB, sm, effH, mkHC0, mkHC1, lendM, lentM, lentI, allHere, addIds, idsB, flatIds, reach, posn, renV, renL, renB, renH, numB, subHp, fwd, bk, bwd, nones, keyOK, noSl, flatBs, List.contains, List.elem, Option.isSome_some, List.nodup_nil, List.nodup_cons, List.not_mem_nil, Option.getD_some, hsKdR_mask, hsKdR_pre, hsKdR_val, hsKdR_hval, isNs_enc, toNs_enc, hq, eL, eO, g, a1, a2, w1, w2, hax2, s1, s2, l1, l2, hA, hB, b2, hfin, ht, Int.toNat_natCast]
        refine ⟨by omega, ⟨by omega, by omega⟩, by omega, ⟨Nat.le_refl _, by omega⟩, ⟨by omega, by omega⟩, ⟨by omega, T _ _ b4, ⟨by omega, hax3, m1, by omega, by omega⟩, T _ _ b3, .inr (noSl_encN _)⟩, ⟨by omega, by omega⟩,
          ⟨by omega, T _ _ b3, ⟨?_, hax3, m2, ?_, ?_⟩, List.take_length.symm, .inr (noSl_encN _)⟩, fun z => if z = 0 then 3408 else z, ?_⟩
        iterate 3 omega
        simp [convL]
        first
          | exact ⟨by omega, fun id h1 _ h3 => by omega⟩
          | omega
          | (intro id h1 _ h3; omega)
def g_spec_kdOrder : List (Nat × PSpec) := []
theorem gok_spec_kdOrder : GOK Try.prog g_spec_kdOrder := gok0
def h_spec_kdOrder : List (Nat × HSpec) := []
theorem hok_spec_kdOrder : HOK Try.prog h_spec_kdOrder := hok0
theorem c_spec_kdOrder (l : List Pt) (idx : List Nat) (ax : Int) (O : List Nat) (hax : ax = 0 ∨ ax = 1) (hL : ∀ x ∈ idx, x < l.length) (hLs : idx.length ≤ 20) (hO : O.length + idx.length ≤ 1000) : HCall Try.prog 77 [.sl 2 (encPs l), .sl 1 (encN idx), .num .i64 ax, .ref 1000 0 O.length true] (sm ([(1000, .arr 1 3 (encN O))])) (.ref 0 0 (O.length + idx.length) true) (sm ([(0, .arr 1 3 (encN (O ++ kdP l (axB ax) idx)))])) := by
  exact kdr_call _ idx (Nat.lt_succ_self _) l ax O hax hL hLs hO
def hs_spec_kdOrder : HSpec := ⟨[true, true, false, false], fun xs hp => match xs, hp with | [.sl 2 les, .sl 1 es, .num .i64 ax, .ref 1000 0 no true], [(1000, .arr 1 ty os)] => (isPs les) ∧ (isNs es) ∧ (isNs os) ∧ (ty = 3) ∧ (no = os.length) ∧ ((fun (l : List Pt) (idx : List Nat) (ax : Int) (O : List Nat) => ax = 0 ∨ ax = 1) (toPs les) (toNs es) ax (toNs os)) ∧ ((fun (l : List Pt) (idx : List Nat) (ax : Int) (O : List Nat) => ∀ x ∈ idx, x < l.length) (toPs les) (toNs es) ax (toNs os)) ∧ ((fun (l : List Pt) (idx : List Nat) (ax : Int) (O : List Nat) => idx.length ≤ 20) (toPs les) (toNs es) ax (toNs os)) ∧ ((fun (l : List Pt) (idx : List Nat) (ax : Int) (O : List Nat) => O.length + idx.length ≤ 1000) (toPs les) (toNs es) ax (toNs os)) | _, _ => False, fun xs hp => match xs, hp with | [.sl 2 les, .sl 1 es, .num .i64 ax, .ref 1000 0 no true], [(1000, .arr 1 ty os)] => (fun (l : List Pt) (idx : List Nat) (ax : Int) (O : List Nat) => (.ref 0 0 (O.length + idx.length) true : IV)) (toPs les) (toNs es) ax (toNs os) | _, _ => .junk, fun xs hp => match xs, hp with | [.sl 2 les, .sl 1 es, .num .i64 ax, .ref 1000 0 no true], [(1000, .arr 1 ty os)] => (fun (l : List Pt) (idx : List Nat) (ax : Int) (O : List Nat) => ([(0, .arr 1 3 (encN (O ++ kdP l (axB ax) idx)))] : List (Nat × IBlk))) (toPs les) (toNs es) ax (toNs os) | _, _ => []⟩
theorem hk_spec_kdOrder : ∀ args hp, hs_spec_kdOrder.pre args hp → HCall Try.prog 77 args (sm hp) (hs_spec_kdOrder.val args hp) (sm (hs_spec_kdOrder.hval args hp)) := by
  intro args hp h
  unfold hs_spec_kdOrder at h ⊢; simp only at h ⊢; split at h
  · obtain ⟨k2, ⟨L', rfl⟩, ⟨O', rfl⟩, rfl, rfl, k3, k4, k5, k6⟩ := h; obtain ⟨l', rfl⟩ := isP_ex k2; simp only [toNs_enc, toPs_enc, len_encN] at *; exact kdr_call _ L' (Nat.lt_succ_self _) l' _ O' k3 k4 k5 k6
  · exact h.elim
theorem en_spec_kdOrder : Enters Try.prog 77 := enters_of Try.func77 (by kernel_rfl) rfl

end Go.Proofs.Ytemppebemahkoaa
