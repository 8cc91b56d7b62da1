/- The law on the hull of the farthest points: the walk. -/
import Derived.Test.YtmcpjnaedgpenaaB14
set_option linter.unusedVariables false
set_option linter.unusedSimpArgs false
namespace Go.Proofs.Ytmcpjnaedgpenaa
open Go Go.Ideal Go.Pl Go.Sort

theorem any_mem {l : List Pt} {p : Pt} (h : p ∈ l) : l.any (· == p) = true := by simpa using h
def g_laws_FnDiameterHull : List (Nat × PSpec) := [(15, sp_spec_DrawDiameter), (16, sp_impl_Diameter), (17, sp_spec_Diameter), (18, sp_impl_Hull), (19, sp_laws_hasPoint)]
theorem gok_laws_FnDiameterHull : GOK Try.prog g_laws_FnDiameterHull := gok_cons gk_spec_DrawDiameter en_spec_DrawDiameter (gok_cons gk_impl_Diameter en_impl_Diameter (gok_cons gk_spec_Diameter en_spec_Diameter (gok_cons gk_impl_Hull en_impl_Hull (gok_cons gk_laws_hasPoint en_laws_hasPoint (gok0)))))
theorem lk_laws_FnDiameterHull_spec_DrawDiameter : lkG g_laws_FnDiameterHull 15 = sp_spec_DrawDiameter := rfl
theorem lk_laws_FnDiameterHull_impl_Diameter : lkG g_laws_FnDiameterHull 16 = sp_impl_Diameter := rfl
theorem lk_laws_FnDiameterHull_spec_Diameter : lkG g_laws_FnDiameterHull 17 = sp_spec_Diameter := rfl
theorem lk_laws_FnDiameterHull_impl_Hull : lkG g_laws_FnDiameterHull 18 = sp_impl_Hull := rfl
theorem lk_laws_FnDiameterHull_laws_hasPoint : lkG g_laws_FnDiameterHull 19 = sp_laws_hasPoint := rfl
def h_laws_FnDiameterHull : List (Nat × HSpec) := []
theorem hok_laws_FnDiameterHull : HOK Try.prog h_laws_FnDiameterHull := hok0
theorem c_laws_FnDiameterHull (b : List Int) (hb : ∀ x ∈ b, 0 ≤ x ∧ x < 256) : ICall Try.prog 3 [.sl 1 (encBy b)] (.bool true) := by
  refine icall_V (G := g_laws_FnDiameterHull) (H := []) [] tabOK mixed gok_laws_FnDiameterHull hok_laws_FnDiameterHull Try.func3 rfl Try.ntmps3 Try.results3 rfl (by kernel_rfl) fun F hN hlen => ?_
  have el := len_encBy b
  simp only [V_seq, V_region, V_cond, W_nil, W_cons, effOp2, KN_seq, asB, effOp, effPure, pureV, binV, lenV, ofC, strip, lkT, ISt.app, opI, gO, gB, allB, gval, wrapG, dstOK, setD, enumT, Op.operands, Call.operands, List.append_toArray, reduceIte, reduceCtorEq, Nat.reduceLT, Nat.reduceEqDiff, ne_eq, not_false_eq_true, true_and, and_self, implies_true, List.nil_append, List.cons_append, List.append_nil, tab22, hN, el]
  refine brW_some (fun h => ?_) (fun h => ?_)
  · simp only [V_seq, V_ret, V_region, W_nil, W_cons, effOp2, KN_seq, KXr_nil, KXr_seq, QE, effOp, effPure, pureV, ofC, strip, lkT, lkH, ISt.app, opI, gO, gB, allB, gval, wrapG, dstOK, setD, clean, Gives, Ideal.Fin, conv, conv0, Op.operands, reduceIte, reduceCtorEq, Nat.reduceLT, Nat.reduceEqDiff, and_self, implies_true, List.nil_append, List.cons_append, List.append_nil, hN]
  · have hsz : b.length ≤ 1048576 := by simp at h; omega
    have hl := drawPts_len hb (show (0 : Int) ≤ 9 by omega) (by omega)
    obtain ⟨l, hl0⟩ : ∃ l, drawPts b 9 = l := ⟨_, rfl⟩
    rw [hl0] at hl
    have e1 := len_encPs l
    have nn : ∀ x : Int, (x != x) = false := fun x => by simp
    have ee : ∀ x : Int, (x == x) = true := fun x => by simp
    cases hx : diaOk l with
    | true =>
      obtain ⟨a1, a2, a3⟩ := dia_yes hx
      simp only [diaOk, Bool.and_eq_true, decide_eq_true_eq] at hx
      obtain ⟨hk, h0⟩ := hx
      have hr := farPair_lt h0
      have he := far_ends h0
      have i1 := any_mem he.1
      have i2 := any_mem he.2
      have g0 := getD_encPs hr.1
      have g1 := getD_encPs hr.2
      have e2 := len_encPs (hullP l)
      cases d1 : decide (dis l (farPair l) ≤ 0) with
      | true =>
        simp only [V_seq, V_skip, V_ret, V_region, V_cond, brW_true, W_nil, W_cons, effOp2, KN_seq, KXr_nil, KXr_seq, QE, asB, effOp, effPure, effPick, effCall, giveUp, hasAll, pureV, pickV, binV, ofC, strip, lkT, lkH, ISt.app, opI, gO, gB, allB, gval, wrapG, dstOK, setD, lendV, lendP, lent, lentP, idsV, idsL, lkHS, flat, flatL, clean, cleanL, callArgs, callFn, allLent, Gives, Ideal.Fin, conv, conv0, Op.operands, reduceIte, reduceCtorEq, cond_true, cond_false, Bool.or_false, Bool.and_true, Bool.not_true, Nat.reduceAdd, Nat.reduceLT, Nat.reduceEqDiff, Nat.zero_add, beq_self_eq_true, true_and, and_true, and_self, implies_true, forall_const, List.map_cons, List.map_nil, List.nil_append, List.cons_append, List.append_nil, Option.bind_some, List.getElem?_cons_zero, List.getElem?_cons_succ, List.getD_cons_zero, List.getD_cons_succ, List.length_cons, List.length_nil, ex_clo, or_true, or_self, Bool.true_eq_false, Bool.false_eq_true, hN, isPs_enc, toPs_enc, isBy_enc, toBy_enc, lk_laws_FnDiameterHull_spec_DrawDiameter, lk_laws_FnDiameterHull_impl_Diameter, lk_laws_FnDiameterHull_spec_Diameter, sp_spec_DrawDiameter, sp_impl_Diameter, sp_spec_Diameter, hsz, hl0, a1, a2, a3, nn, d1]
        exact hb
      | false =>
        simp only [V_seq, V_skip, V_ret, V_region, V_cond, brW_false, W_nil, W_cons, effOp2, KN_seq, KXr_nil, QE, asB, effOp, effPure, effPick, effCall, giveUp, hasAll, pureV, pickV, binV, partV, eltV, loadV, iaddrV, ofC, strip, lkT, lkH, ISt.app, opI, gO, gB, allB, gval, wrapG, dstOK, setD, lendV, lendP, lent, lentP, idsV, idsL, lkHS, flat, flatL, clean, cleanL, callArgs, callFn, allLent, Gives, Ideal.Fin, conv, conv0, Op.operands, reduceIte, reduceCtorEq, cond_true, cond_false, Bool.or_false, Bool.and_true, Bool.not_true, Nat.reduceAdd, Nat.reduceLT, Nat.reduceLeDiff, Nat.reduceEqDiff, Nat.zero_add, ne_eq, not_false_eq_true, beq_self_eq_true, true_and, and_true, and_false, and_self, implies_true, forall_const, List.map_cons, List.map_nil, List.nil_append, List.cons_append, List.append_nil, Option.bind_some, List.getElem?_cons_zero, List.getElem?_cons_succ, List.getD_cons_zero, List.getD_cons_succ, List.length_cons, List.length_nil, List.take_succ_cons, List.take_nil, List.drop_zero, ex_clo, or_true, or_self, Bool.true_eq_false, Bool.false_eq_true, tab23, tab30, hN, pe, Int.toNat_natCast, isPs_enc, toPs_enc, isBy_enc, toBy_enc, lk_laws_FnDiameterHull_spec_DrawDiameter, lk_laws_FnDiameterHull_impl_Diameter, lk_laws_FnDiameterHull_spec_Diameter, lk_laws_FnDiameterHull_impl_Hull, lk_laws_FnDiameterHull_laws_hasPoint, sp_spec_DrawDiameter, sp_impl_Diameter, sp_spec_Diameter, sp_impl_Hull, sp_laws_hasPoint, hsz, hl0, e1, a1, a2, a3, nn, d1, hk, g0, g1, i1, i2]
        repeat refine And.intro (by first | omega | (simp; done) | (simp; omega)) ?_
        omega
    | false =>
      obtain ⟨a1, a2, a3⟩ := dia_no hx
      have d3 : decide ((-1 : Int) ≤ 0) = true := by decide
      simp only [V_seq, V_skip, V_ret, V_region, V_cond, brW_true, W_nil, W_cons, effOp2, KN_seq, KXr_nil, KXr_seq, QE, asB, effOp, effPure, effPick, effCall, giveUp, hasAll, pureV, pickV, binV, ofC, strip, lkT, lkH, ISt.app, opI, gO, gB, allB, gval, wrapG, dstOK, setD, lendV, lendP, lent, lentP, idsV, idsL, lkHS, flat, flatL, clean, cleanL, callArgs, callFn, allLent, Gives, Ideal.Fin, conv, conv0, Op.operands, reduceIte, reduceCtorEq, cond_true, cond_false, Bool.or_false, Bool.and_true, Bool.not_true, Nat.reduceAdd, Nat.reduceLT, Nat.reduceEqDiff, Nat.zero_add, beq_self_eq_true, true_and, and_true, and_self, implies_true, forall_const, List.map_cons, List.map_nil, List.nil_append, List.cons_append, List.append_nil, Option.bind_some, List.getElem?_cons_zero, List.getElem?_cons_succ, List.getD_cons_zero, List.getD_cons_succ, List.length_cons, List.length_nil, ex_clo, or_true, or_self, Bool.true_eq_false, Bool.false_eq_true, hN, isPs_enc, toPs_enc, isBy_enc, toBy_enc, lk_laws_FnDiameterHull_spec_DrawDiameter, lk_laws_FnDiameterHull_impl_Diameter, lk_laws_FnDiameterHull_spec_Diameter, sp_spec_DrawDiameter, sp_impl_Diameter, sp_spec_Diameter, hsz, hl0, a1, a2, a3, nn, d3]
      exact hb
def sp_laws_FnDiameterHull : PSpec := ⟨fun xs => match xs with | [.sl 1 bes] => isBy bes ∧ ((fun (b : List Int) => ∀ x ∈ b, 0 ≤ x ∧ x < 256) (toIs bes)) | _ => False, fun xs => match xs with | [.sl _ bes] => (fun (b : List Int) => .bool true) (toIs bes) | _ => .junk, false⟩
theorem gk_laws_FnDiameterHull : ∀ args, sp_laws_FnDiameterHull.pre args → ICall Try.prog 3 args (sp_laws_FnDiameterHull.val args) := by
  intro args h
  unfold sp_laws_FnDiameterHull at h ⊢; simp only at h ⊢; split at h
  · obtain ⟨h0, h1⟩ := h
    obtain ⟨l0, rfl⟩ := isBy_ex h0
    simp only [toBy_enc] at *
    exact c_laws_FnDiameterHull _ h1
  · exact h.elim
theorem en_laws_FnDiameterHull : Enters Try.prog 3 := enters_of Try.func3 (by kernel_rfl) rfl


end Go.Proofs.Ytmcpjnaedgpenaa
