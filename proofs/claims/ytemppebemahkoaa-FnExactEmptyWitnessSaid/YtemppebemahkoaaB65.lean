/- The exact law on witnesses of emptiness. -/
import Derived.Test.YtemppebemahkoaaB64
import Derived.Test.YtemppebemahkoaaBE
import Derived.Test.YtemppebemahkoaaBZ
import Derived.Test.YtemppebemahkoaaBF
set_option linter.unusedVariables false
set_option linter.unusedSimpArgs false
set_option maxHeartbeats 16000000
set_option maxRecDepth 100000
namespace Go.Proofs.Ytemppebemahkoaa
open Go Go.Ideal Go.Pl Go.Sort

theorem icallF_nil2 {f : Nat} {args : List IV} {k : Nat} {t : Bool} (h : ICall Try.prog f args (.tup [.sl k [], .bool t])) : ICallF Try.prog f args (.tup [.sl k [], .bool t]) := by
  intro A w vs hA hR
  refine (h A w vs hA hR).mono ?_
  rintro e w' ⟨x, h1, h2, h3⟩
  refine ⟨x, h1, h2, ?_⟩
  simp only [RepV, RepL] at h3 ⊢
  obtain ⟨us, e0, u, r, e1, ⟨a, n, cp, q1, q2, q3, q4, q5, q6, q7⟩, g2⟩ := h3
  exact ⟨us, e0, u, r, e1, ⟨a, n, cp, q1, q2, q3, q4, q5, q6, fun h0 => by simp at q2; omega⟩, g2⟩
def g_impl_EmptyWitness_e : List (Nat × PSpec) := [(38, sp_impl_ValidHalves)]
theorem gok_impl_EmptyWitness_e : GOK Try.prog g_impl_EmptyWitness_e := gok_cons gk_impl_ValidHalves en_impl_ValidHalves (gok0)
theorem lk_impl_EmptyWitness_e_impl_ValidHalves : lkG g_impl_EmptyWitness_e 38 = sp_impl_ValidHalves := rfl
def h_impl_EmptyWitness_e : List (Nat × HSpec) := [(87, hs_slices_Clip_int_int)]
theorem hok_impl_EmptyWitness_e : HOK Try.prog h_impl_EmptyWitness_e := hok_cons hk_slices_Clip_int_int en_slices_Clip_int_int (hok0)
theorem lh_impl_EmptyWitness_e_impl_ValidHalves : lkHS h_impl_EmptyWitness_e 38 = none := rfl
theorem lh_impl_EmptyWitness_e_slices_Clip_int_int : lkHS h_impl_EmptyWitness_e 87 = some hs_slices_Clip_int_int := rfl
theorem c_impl_EmptyWitness_e (l : List Tr) (hn : ewV l = none) : ICallF Try.prog 30 [.sl 3 (encTs l)] (.tup [.sl 1 [], .bool false]) := by
  have h := c_impl_EmptyWitness l
  rw [hn] at h
  exact icallF_nil2 h
def sp_impl_EmptyWitness_e : PSpec := ⟨fun xs => match xs with | [.sl 3 les] => isTs les ∧ ((fun (l : List Tr) => ewV l = none) (toTs les)) | _ => False, fun xs => match xs with | [.sl _ les] => (fun (l : List Tr) => .tup [.sl 1 [], .bool false]) (toTs les) | _ => .junk, true⟩
theorem gk_impl_EmptyWitness_e : ∀ args, sp_impl_EmptyWitness_e.pre args → ICallF Try.prog 30 args (sp_impl_EmptyWitness_e.val args) ∧ ∀ id, (sp_impl_EmptyWitness_e.val args).ment id = false := by
  intro args h
  unfold sp_impl_EmptyWitness_e at h ⊢; simp only at h ⊢; split at h
  · obtain ⟨h0, h1⟩ := h
    obtain ⟨l0, rfl⟩ := isT_ex h0
    simp only [toTs_enc] at *
    exact ⟨c_impl_EmptyWitness_e _ h1, fun id => rfl⟩
  · exact h.elim
theorem en_impl_EmptyWitness_e : Enters Try.prog 30 := enters_of Try.func30 (by kernel_rfl) rfl

def g_e_exew_a : List (Nat × PSpec) := [(27, sp_laws_szHalfPlaneS), (28, sp_spec_EmptyWitness), (30, sp_impl_EmptyWitness_e), (31, sp_laws_eqHalfPlaneS), (22, sp_laws_eqIntS), (26, sp_laws_heldIntS)]
theorem gok_e_exew_a : GOK Try.prog g_e_exew_a := gok_cons gk_laws_szHalfPlaneS en_laws_szHalfPlaneS (gok_cons gk_spec_EmptyWitness en_spec_EmptyWitness (gok_consO gk_impl_EmptyWitness_e en_impl_EmptyWitness_e (gok_cons gk_laws_eqHalfPlaneS en_laws_eqHalfPlaneS (gok_cons gk_laws_eqIntS en_laws_eqIntS (gok_cons gk_laws_heldIntS en_laws_heldIntS (gok0))))))
theorem lk_e_exew_a_laws_szHalfPlaneS : lkG g_e_exew_a 27 = sp_laws_szHalfPlaneS := rfl
theorem lk_e_exew_a_spec_EmptyWitness : lkG g_e_exew_a 28 = sp_spec_EmptyWitness := rfl
theorem lk_e_exew_a_impl_EmptyWitness_e : lkG g_e_exew_a 30 = sp_impl_EmptyWitness_e := rfl
theorem lk_e_exew_a_laws_eqHalfPlaneS : lkG g_e_exew_a 31 = sp_laws_eqHalfPlaneS := rfl
theorem lk_e_exew_a_laws_eqIntS : lkG g_e_exew_a 22 = sp_laws_eqIntS := rfl
theorem lk_e_exew_a_laws_heldIntS : lkG g_e_exew_a 26 = sp_laws_heldIntS := rfl
def h_e_exew_a : List (Nat × HSpec) := [(29, hs_laws_toHalfPlaneS), (32, hs_laws_markHalfPlaneS), (25, hs_laws_markIntS_or)]
theorem hok_e_exew_a : HOK Try.prog h_e_exew_a := hok_cons hk_laws_toHalfPlaneS en_laws_toHalfPlaneS (hok_cons hk_laws_markHalfPlaneS en_laws_markHalfPlaneS (hok_cons hk_laws_markIntS_or en_laws_markIntS_or (hok0)))
theorem lh_e_exew_a_laws_szHalfPlaneS : lkHS h_e_exew_a 27 = none := rfl
theorem lh_e_exew_a_spec_EmptyWitness : lkHS h_e_exew_a 28 = none := rfl
theorem lh_e_exew_a_impl_EmptyWitness_e : lkHS h_e_exew_a 30 = none := rfl
theorem lh_e_exew_a_laws_eqHalfPlaneS : lkHS h_e_exew_a 31 = none := rfl
theorem lh_e_exew_a_laws_eqIntS : lkHS h_e_exew_a 22 = none := rfl
theorem lh_e_exew_a_laws_heldIntS : lkHS h_e_exew_a 26 = none := rfl
theorem lh_e_exew_a_laws_toHalfPlaneS : lkHS h_e_exew_a 29 = some hs_laws_toHalfPlaneS := rfl
theorem lh_e_exew_a_laws_markHalfPlaneS : lkHS h_e_exew_a 32 = some hs_laws_markHalfPlaneS := rfl
theorem lh_e_exew_a_laws_markIntS_or : lkHS h_e_exew_a 25 = some hs_laws_markIntS_or := rfl
def g_e_exew_b : List (Nat × PSpec) := [(27, sp_laws_szHalfPlaneS), (28, sp_spec_EmptyWitness), (31, sp_laws_eqHalfPlaneS), (22, sp_laws_eqIntS), (26, sp_laws_heldIntS)]
theorem gok_e_exew_b : GOK Try.prog g_e_exew_b := gok_cons gk_laws_szHalfPlaneS en_laws_szHalfPlaneS (gok_cons gk_spec_EmptyWitness en_spec_EmptyWitness (gok_cons gk_laws_eqHalfPlaneS en_laws_eqHalfPlaneS (gok_cons gk_laws_eqIntS en_laws_eqIntS (gok_cons gk_laws_heldIntS en_laws_heldIntS (gok0)))))
theorem lk_e_exew_b_laws_szHalfPlaneS : lkG g_e_exew_b 27 = sp_laws_szHalfPlaneS := rfl
theorem lk_e_exew_b_spec_EmptyWitness : lkG g_e_exew_b 28 = sp_spec_EmptyWitness := rfl
theorem lk_e_exew_b_laws_eqHalfPlaneS : lkG g_e_exew_b 31 = sp_laws_eqHalfPlaneS := rfl
theorem lk_e_exew_b_laws_eqIntS : lkG g_e_exew_b 22 = sp_laws_eqIntS := rfl
theorem lk_e_exew_b_laws_heldIntS : lkG g_e_exew_b 26 = sp_laws_heldIntS := rfl
def h_e_exew_b : List (Nat × HSpec) := [(29, hs_laws_toHalfPlaneS), (30, hs_impl_EmptyWitness_h), (32, hs_laws_markHalfPlaneS), (25, hs_laws_markIntS)]
theorem hok_e_exew_b : HOK Try.prog h_e_exew_b := hok_cons hk_laws_toHalfPlaneS en_laws_toHalfPlaneS (hok_cons hk_impl_EmptyWitness_h en_impl_EmptyWitness_h (hok_cons hk_laws_markHalfPlaneS en_laws_markHalfPlaneS (hok_cons hk_laws_markIntS en_laws_markIntS (hok0))))
theorem lh_e_exew_b_laws_szHalfPlaneS : lkHS h_e_exew_b 27 = none := rfl
theorem lh_e_exew_b_spec_EmptyWitness : lkHS h_e_exew_b 28 = none := rfl
theorem lh_e_exew_b_laws_eqHalfPlaneS : lkHS h_e_exew_b 31 = none := rfl
theorem lh_e_exew_b_laws_eqIntS : lkHS h_e_exew_b 22 = none := rfl
theorem lh_e_exew_b_laws_heldIntS : lkHS h_e_exew_b 26 = none := rfl
theorem lh_e_exew_b_laws_toHalfPlaneS : lkHS h_e_exew_b 29 = some hs_laws_toHalfPlaneS := rfl
theorem lh_e_exew_b_impl_EmptyWitness_h : lkHS h_e_exew_b 30 = some hs_impl_EmptyWitness_h := rfl
theorem lh_e_exew_b_laws_markHalfPlaneS : lkHS h_e_exew_b 32 = some hs_laws_markHalfPlaneS := rfl
theorem lh_e_exew_b_laws_markIntS : lkHS h_e_exew_b 25 = some hs_laws_markIntS := rfl
def g_laws_FnExactEmptyWitness : List (Nat × PSpec) := [(27, sp_laws_szHalfPlaneS), (28, sp_spec_EmptyWitness), (30, sp_impl_EmptyWitness), (22, sp_laws_eqIntS), (31, sp_laws_eqHalfPlaneS), (26, sp_laws_heldIntS)]
theorem gok_laws_FnExactEmptyWitness : GOK Try.prog g_laws_FnExactEmptyWitness := gok_cons gk_laws_szHalfPlaneS en_laws_szHalfPlaneS (gok_cons gk_spec_EmptyWitness en_spec_EmptyWitness (gok_cons gk_impl_EmptyWitness en_impl_EmptyWitness (gok_cons gk_laws_eqIntS en_laws_eqIntS (gok_cons gk_laws_eqHalfPlaneS en_laws_eqHalfPlaneS (gok_cons gk_laws_heldIntS en_laws_heldIntS (gok0))))))
theorem lk_laws_FnExactEmptyWitness_laws_szHalfPlaneS : lkG g_laws_FnExactEmptyWitness 27 = sp_laws_szHalfPlaneS := rfl
theorem lk_laws_FnExactEmptyWitness_spec_EmptyWitness : lkG g_laws_FnExactEmptyWitness 28 = sp_spec_EmptyWitness := rfl
theorem lk_laws_FnExactEmptyWitness_impl_EmptyWitness : lkG g_laws_FnExactEmptyWitness 30 = sp_impl_EmptyWitness := rfl
theorem lk_laws_FnExactEmptyWitness_laws_eqIntS : lkG g_laws_FnExactEmptyWitness 22 = sp_laws_eqIntS := rfl
theorem lk_laws_FnExactEmptyWitness_laws_eqHalfPlaneS : lkG g_laws_FnExactEmptyWitness 31 = sp_laws_eqHalfPlaneS := rfl
theorem lk_laws_FnExactEmptyWitness_laws_heldIntS : lkG g_laws_FnExactEmptyWitness 26 = sp_laws_heldIntS := rfl
def h_laws_FnExactEmptyWitness : List (Nat × HSpec) := [(29, hs_laws_toHalfPlaneS), (32, hs_laws_markHalfPlaneS), (25, hs_laws_markIntS)]
theorem hok_laws_FnExactEmptyWitness : HOK Try.prog h_laws_FnExactEmptyWitness := hok_cons hk_laws_toHalfPlaneS en_laws_toHalfPlaneS (hok_cons hk_laws_markHalfPlaneS en_laws_markHalfPlaneS (hok_cons hk_laws_markIntS en_laws_markIntS (hok0)))
theorem lh_laws_FnExactEmptyWitness_laws_szHalfPlaneS : lkHS h_laws_FnExactEmptyWitness 27 = none := rfl
theorem lh_laws_FnExactEmptyWitness_spec_EmptyWitness : lkHS h_laws_FnExactEmptyWitness 28 = none := rfl
theorem lh_laws_FnExactEmptyWitness_impl_EmptyWitness : lkHS h_laws_FnExactEmptyWitness 30 = none := rfl
theorem lh_laws_FnExactEmptyWitness_laws_eqIntS : lkHS h_laws_FnExactEmptyWitness 22 = none := rfl
theorem lh_laws_FnExactEmptyWitness_laws_eqHalfPlaneS : lkHS h_laws_FnExactEmptyWitness 31 = none := rfl
theorem lh_laws_FnExactEmptyWitness_laws_heldIntS : lkHS h_laws_FnExactEmptyWitness 26 = none := rfl
theorem lh_laws_FnExactEmptyWitness_laws_toHalfPlaneS : lkHS h_laws_FnExactEmptyWitness 29 = some hs_laws_toHalfPlaneS := rfl
theorem lh_laws_FnExactEmptyWitness_laws_markHalfPlaneS : lkHS h_laws_FnExactEmptyWitness 32 = some hs_laws_markHalfPlaneS := rfl
theorem lh_laws_FnExactEmptyWitness_laws_markIntS : lkHS h_laws_FnExactEmptyWitness 25 = some hs_laws_markIntS := rfl
theorem c_laws_FnExactEmptyWitness (l : List Tr)  : ICall Try.prog 5 [.sl 3 (encTs l)] (.bool true) := by
  have hs : ∀ x : List Tr, (x == x) = true := fun x => by simp
  have hs2 : ∀ x : List Int, (x == x) = true := fun x => by simp
  have hb : ∀ x : Bool, (x != x) = false := fun x => by simp
  have hn : ∀ x : Int, (x != x) = false := fun x => by simp
  cases hc : ewV l with
  | some w =>
    have ho : optS (ewV l) = .tup [.sl 1 (encI (natI w)), .bool true] := by rw [hc]; rfl
    have hg : (ewV l).getD [] = w := by rw [hc]; rfl
    have hsm : (ewV l).isSome = true := by rw [hc]; rfl
    refine icall_V (G := g_e_exew_b) (H := h_e_exew_b) [] tabOK mixed gok_e_exew_b hok_e_exew_b Try.func5 rfl Try.ntmps5 Try.results5 rfl (by kernel_rfl) fun F hN hlen => ?_
    have el := len_encTs l
    have hl : l.length ≤ 8 := by have := ewV_ok hsm; simp [okHs] at this; exact this.2
    have hwl : w.length ≤ 3 := by
      have h1 := hc
      rw [ewV, ewV_ok hsm, if_pos rfl] at h1
      exact (srch_some h1).2.2.1
    have en := encN_natI w
    obtain ⟨E, hE⟩ : ∃ E, natI w = E := ⟨_, rfl⟩
    have hEl : E.length = w.length := by rw [← hE, natI, List.length_map]
    rw [hE] at ho en
    have c : l.length ≤ 1048576 := by omega
    have c2 : l.length ≤ 2000000 := by omega
    have hv : szHalfPlaneV l 1048576 = 1048576 - (l.length : Int) := if_neg (by omega)
    have d1 : decide (1048576 - (l.length : Int) < 0) = false := by simp only [decide_eq_false_iff_not]; omega
    have d2 : decide (1 + 3 * (l.length : Int) < 0) = false := by simp only [decide_eq_false_iff_not]; omega
    have d3 : decide (1 + (w.length : Int) < 0) = false := by simp only [decide_eq_false_iff_not]; omega
    have eh := len_encI E
    rw [hEl] at eh
    have em2 := len_encI (marksI w.length 1)
    rw [marksI_len] at em2
    have ml2 := marksI_len w.length 1
    have hd := heldI_marks w.length 1
    have tk : (encI (marksI w.length 1)).take w.length = encI (marksI w.length 1) := List.take_of_length_le (by omega)
    have tk3 : (encI E).take w.length = encI E := List.take_of_length_le (by omega)
    simp only [V_seq, V_skip, V_ret, V_region, V_cond, brW_false, W_nil, W_cons, effOp2, KN_seq, KXr_nil, QE, asB, effOp, effPure, effPick, effCall, giveUp, hasAll, Option.isSome_some, skipE, pureV, pickV, binV, ofC, strip, lkT, lkH, ISt.app, opI, gO, gB, allB, gval, wrapG, dstOK, setD, mentTm, mentHp, IV.ment, IV.mentL, lendV, lendP, lent, lentP, idsV, idsL, flat, flatL, clean, cleanL, callArgs, callFn, allLent, enumT, Gives, Ideal.Fin, conv, conv0, convL, IBlk.shape, Op.operands, reduceIte, reduceCtorEq, cond_true, cond_false, Bool.or_false, Bool.or_true, Bool.and_true, Bool.not_true, Bool.not_false, Nat.reduceAdd, Nat.reduceSub, Nat.reduceMul, Nat.reduceLT, Nat.reduceLeDiff, Nat.reduceEqDiff, Nat.reduceBEq, Nat.add_zero, Nat.zero_add, not_false_eq_true, beq_self_eq_true, true_and, and_true, and_false, and_self, false_implies, implies_true, forall_const, List.map_cons, List.map_nil, List.nil_append, List.cons_append, List.append_nil, List.all_cons, List.all_nil, Option.map_some, Option.map_none, Option.bind_some, List.getElem?_cons_zero, List.getElem?_cons_succ, List.getD_cons_zero, List.getD_cons_succ, List.length_cons, List.length_nil, List.drop_zero, ex_clo, true_or, or_true, or_self, Bool.true_eq_false, Bool.false_eq_true, tab4, hN, isTs_enc, toTs_enc, isIs_enc, toIs_enc, SLe0, convTm, convHp, convB, sm, effH, mkHC0, mkHC1, lendM, lentM, lentI, allHere, addIds, idsB, flatIds, reach, posn, renV, renL, renB, renH, numB, subHp, fwd, bk, bwd, nones, keyOK, noSl, noSlL, flatBs, List.contains, List.elem, Option.isSome_some, List.nodup_nil, List.nodup_cons, List.not_mem_nil, Option.getD_some, lk_e_exew_b_laws_szHalfPlaneS, lk_e_exew_b_spec_EmptyWitness, lk_e_exew_b_laws_eqHalfPlaneS, lk_e_exew_b_laws_eqIntS, lk_e_exew_b_laws_heldIntS, sp_laws_szHalfPlaneS, sp_spec_EmptyWitness, sp_laws_eqHalfPlaneS, sp_laws_eqIntS, sp_laws_heldIntS, lh_e_exew_b_laws_szHalfPlaneS, lh_e_exew_b_spec_EmptyWitness, lh_e_exew_b_laws_eqHalfPlaneS, lh_e_exew_b_laws_eqIntS, lh_e_exew_b_laws_heldIntS, lh_e_exew_b_laws_toHalfPlaneS, lh_e_exew_b_impl_EmptyWitness_h, lh_e_exew_b_laws_markHalfPlaneS, lh_e_exew_b_laws_markIntS, hs_laws_toHalfPlaneS, hs_impl_EmptyWitness_h, hs_laws_markHalfPlaneS, hs_laws_markIntS, el, hv, d1, d2, d3, c, c2, ho, hg, hsm, en, hEl, take_encTs, hn, eh, em2, ml2, hd, tk, tk3, noSl_encI]
    refine ⟨⟨by omega, by omega⟩, by omega, by omega, by omega, by omega, ⟨⟨by omega, by omega⟩, List.take_length.symm⟩, by omega, ?_⟩
    omega
  | none =>
    have ho : optS none = .tup [.sl 1 [], .bool false] := rfl
    refine icall_V (G := g_e_exew_a) (H := h_e_exew_a) [] tabOK mixed gok_e_exew_a hok_e_exew_a Try.func5 rfl Try.ntmps5 Try.results5 rfl (by kernel_rfl) fun F hN hlen => ?_
    have hl := hlen 0 3 _ rfl
    have el := len_encTs l
    rw [el] at hl
    by_cases c : l.length ≤ 1048576
    · have hv : szHalfPlaneV l 1048576 = 1048576 - (l.length : Int) := if_neg (by omega)
      have c2 : l.length ≤ 2000000 := by omega
      have d1 : decide (1048576 - (l.length : Int) < 0) = false := by simp only [decide_eq_false_iff_not]; omega
      have d2 : decide (1 + 3 * (l.length : Int) < 0) = false := by simp only [decide_eq_false_iff_not]; omega
      have d3 : decide ((1 : Int) < 0) = false := by decide
      have hd : heldI [] 1 = 1 := rfl
      have e0 : encI [] = [] := rfl
      have e1 : toIs [] = [] := rfl
      simp only [V_seq, V_skip, V_ret, V_region, V_cond, brW_false, W_nil, W_cons, effOp2, KN_seq, KXr_nil, QE, asB, effOp, effPure, effPick, effCall, giveUp, hasAll, Option.isSome_some, skipE, pureV, pickV, binV, ofC, strip, lkT, lkH, ISt.app, opI, gO, gB, allB, gval, wrapG, dstOK, setD, mentTm, mentHp, IV.ment, IV.mentL, lendV, lendP, lent, lentP, idsV, idsL, flat, flatL, clean, cleanL, callArgs, callFn, allLent, enumT, Gives, Ideal.Fin, conv, conv0, IBlk.shape, Op.operands, reduceIte, reduceCtorEq, cond_true, cond_false, Bool.or_false, Bool.or_true, Bool.and_true, Bool.not_true, Bool.not_false, Nat.reduceAdd, Nat.reduceSub, Nat.reduceMul, Nat.reduceLT, Nat.reduceLeDiff, Nat.reduceEqDiff, Nat.reduceBEq, Nat.add_zero, Nat.zero_add, not_false_eq_true, beq_self_eq_true, true_and, and_true, and_false, and_self, implies_true, forall_const, List.map_cons, List.map_nil, List.nil_append, List.cons_append, List.append_nil, List.all_nil, Option.map_some, Option.map_none, Option.bind_some, List.getElem?_cons_zero, List.getElem?_cons_succ, List.getD_cons_zero, List.getD_cons_succ, List.length_cons, List.length_nil, List.drop_zero, ex_clo, true_or, or_true, or_self, Bool.true_eq_false, Bool.false_eq_true, tab4, hN, isTs_enc, toTs_enc, isIs_nil, SLe0, convTm, convHp, convB, sm, effH, mkHC0, mkHC1, lendM, lentM, lentI, allHere, addIds, idsB, flatIds, reach, posn, renV, renL, renB, renH, numB, subHp, fwd, bk, bwd, nones, keyOK, noSl, flatBs, List.contains, List.elem, Option.isSome_some, List.nodup_nil, List.nodup_cons, List.not_mem_nil, Option.getD_some, lk_e_exew_a_laws_szHalfPlaneS, lk_e_exew_a_spec_EmptyWitness, lk_e_exew_a_impl_EmptyWitness_e, lk_e_exew_a_laws_eqHalfPlaneS, lk_e_exew_a_laws_eqIntS, lk_e_exew_a_laws_heldIntS, sp_laws_szHalfPlaneS, sp_spec_EmptyWitness, sp_impl_EmptyWitness_e, sp_laws_eqHalfPlaneS, sp_laws_eqIntS, sp_laws_heldIntS, lh_e_exew_a_laws_szHalfPlaneS, lh_e_exew_a_spec_EmptyWitness, lh_e_exew_a_impl_EmptyWitness_e, lh_e_exew_a_laws_eqHalfPlaneS, lh_e_exew_a_laws_eqIntS, lh_e_exew_a_laws_heldIntS, lh_e_exew_a_laws_toHalfPlaneS, lh_e_exew_a_laws_markHalfPlaneS, lh_e_exew_a_laws_markIntS_or, hs_laws_toHalfPlaneS, hs_laws_markHalfPlaneS, hs_laws_markIntS_or, el, hv, d1, d2, d3, c, c2, take_encTs, hn, hd, ho, hc, e1, hs_or, sel_sl, hs_laws_markIntS, hs_laws_markIntS_n]
      exact ⟨⟨by omega, by omega⟩, by omega, by omega, by omega, ⟨⟨by omega, by omega⟩, List.take_length.symm⟩, ⟨by omega, by omega⟩, by omega, by omega, by omega⟩
    · have hv : szHalfPlaneV l 1048576 = -1 := if_pos (by omega)
      have d1 : decide ((-1 : Int) < 0) = true := by decide
      simp only [V_seq, V_ret, V_region, V_cond, brW_true, W_nil, W_cons, effOp2, KN_seq, KXr_nil, KXr_seq, QE, asB, effOp, effPure, effCall, giveUp, hasAll, pureV, binV, ofC, strip, lkT, lkH, ISt.app, opI, gO, gB, allB, gval, wrapG, dstOK, setD, lendV, lendP, lent, lentP, idsV, idsL, flat, clean, callArgs, callFn, allLent, enumT, Gives, Ideal.Fin, conv, conv0, Op.operands, reduceIte, reduceCtorEq, cond_true, Bool.or_false, Bool.not_true, Nat.reduceLT, Nat.reduceEqDiff, true_and, and_true, and_self, implies_true, forall_const, List.map_cons, List.map_nil, List.nil_append, List.cons_append, List.append_nil, ex_clo, or_self, hN, isTs_enc, toTs_enc, lk_e_exew_a_laws_szHalfPlaneS, sp_laws_szHalfPlaneS, lh_e_exew_a_laws_szHalfPlaneS, hv, d1]
      exact ⟨by omega, by omega⟩
def sp_laws_FnExactEmptyWitness : PSpec := ⟨fun xs => match xs with | [.sl 3 les] => isTs les | _ => False, fun xs => match xs with | [.sl _ les] => (fun (l : List Tr) => .bool true) (toTs les) | _ => .junk, false⟩
theorem gk_laws_FnExactEmptyWitness : ∀ args, sp_laws_FnExactEmptyWitness.pre args → ICall Try.prog 5 args (sp_laws_FnExactEmptyWitness.val args) := by
  intro args h
  unfold sp_laws_FnExactEmptyWitness at h ⊢; simp only at h ⊢; split at h
  · have h0 := h
    obtain ⟨l0, rfl⟩ := isT_ex h0
    simp only [toPs_enc] at *
    exact c_laws_FnExactEmptyWitness _ 
  · exact h.elim
theorem en_laws_FnExactEmptyWitness : Enters Try.prog 5 := enters_of Try.func5 (by kernel_rfl) rfl

end Go.Proofs.Ytemppebemahkoaa
