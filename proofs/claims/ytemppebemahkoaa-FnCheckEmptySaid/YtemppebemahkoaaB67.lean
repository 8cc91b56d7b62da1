/- The laws on witnesses of emptiness. -/
import Derived.Test.YtemppebemahkoaaB66
import Derived.Test.YtemppebemahkoaaBF
set_option linter.unusedVariables false
set_option linter.unusedSimpArgs false
set_option maxHeartbeats 1600000
set_option maxRecDepth 100000
namespace Go.Proofs.Ytemppebemahkoaa
open Go Go.Ideal Go.Pl Go.Sort

theorem ew_corn {l : List Tr} (hk : okHs l = true) : (ewV l).isSome = (cornV l).isEmpty := by
  have h1 : ewV l = srchP (empB l) l.length := by rw [ewV, hk]; rfl
  have h2 : cornV l = cornP l := by rw [cornV, hk]; rfl
  rw [h1, h2]; exact witness_iff l
theorem ew_ck {l : List Tr} {w : List Nat} (h : ewV l = some w) : ckB l (natI w) = true ∧ 1 ≤ w.length ∧ w.length ≤ 3 := by
  have hk : okHs l = true := ewV_ok (by rw [h]; rfl)
  have h1 : ewV l = srchP (empB l) l.length := by rw [ewV, hk]; rfl
  rw [h1] at h
  obtain ⟨a1, a2, a3, a4⟩ := srch_some h
  refine ⟨?_, a2, a3⟩
  unfold ckB
  rw [hk, selL_natI]
  have e1 : (natI w).length = w.length := by rw [natI, List.length_map]
  have e2 : ((natI w).all fun k => inR k 0 ((l.length : Int) - 1)) = true := by
    rw [List.all_eq_true]
    intro x hx
    obtain ⟨y, hy, rfl⟩ := List.mem_map.1 hx
    have := (up_lt a4 y hy).2
    simp only [inR, Bool.and_eq_true, decide_eq_true_eq]; omega
  rw [e1, e2]
  simp only [Bool.true_and, Bool.and_eq_true, decide_eq_true_eq]
  exact ⟨a3, a1⟩
theorem ck_corn {l : List Tr} {w : List Int} (h : ckB l w = true) : cornV l = [] := by
  unfold ckB at h
  simp only [Bool.and_eq_true, decide_eq_true_eq] at h
  obtain ⟨h1, h2, h3, h4⟩ := h
  have hw := ck_in h3
  rw [cornV, h1]
  refine corn_sub (m := selL l w) (fun k hk => ?_) (by simpa using h4)
  obtain ⟨x, hx, rfl⟩ := List.mem_map.1 hk
  obtain ⟨b1, b2⟩ := hw x hx
  have hlt : x.toNat < l.length := by omega
  rw [tAt, List.getD, List.getElem?_eq_getElem hlt]
  exact List.getElem_mem hlt
def g_laws_FnEmptyWitness : List (Nat × PSpec) := [(37, sp_spec_DrawEmptyWitness), (30, sp_impl_EmptyWitness), (28, sp_spec_EmptyWitness), (17, sp_laws_equalInts), (38, sp_impl_ValidHalves), (36, sp_impl_Corners), (34, sp_impl_CheckEmpty)]
theorem gok_laws_FnEmptyWitness : GOK Try.prog g_laws_FnEmptyWitness := gok_cons gk_spec_DrawEmptyWitness en_spec_DrawEmptyWitness (gok_cons gk_impl_EmptyWitness en_impl_EmptyWitness (gok_cons gk_spec_EmptyWitness en_spec_EmptyWitness (gok_cons gk_laws_equalInts en_laws_equalInts (gok_cons gk_impl_ValidHalves en_impl_ValidHalves (gok_cons gk_impl_Corners en_impl_Corners (gok_cons gk_impl_CheckEmpty en_impl_CheckEmpty (gok0)))))))
theorem lk_laws_FnEmptyWitness_spec_DrawEmptyWitness : lkG g_laws_FnEmptyWitness 37 = sp_spec_DrawEmptyWitness := rfl
theorem lk_laws_FnEmptyWitness_impl_EmptyWitness : lkG g_laws_FnEmptyWitness 30 = sp_impl_EmptyWitness := rfl
theorem lk_laws_FnEmptyWitness_spec_EmptyWitness : lkG g_laws_FnEmptyWitness 28 = sp_spec_EmptyWitness := rfl
theorem lk_laws_FnEmptyWitness_laws_equalInts : lkG g_laws_FnEmptyWitness 17 = sp_laws_equalInts := rfl
theorem lk_laws_FnEmptyWitness_impl_ValidHalves : lkG g_laws_FnEmptyWitness 38 = sp_impl_ValidHalves := rfl
theorem lk_laws_FnEmptyWitness_impl_Corners : lkG g_laws_FnEmptyWitness 36 = sp_impl_Corners := rfl
theorem lk_laws_FnEmptyWitness_impl_CheckEmpty : lkG g_laws_FnEmptyWitness 34 = sp_impl_CheckEmpty := rfl
def h_laws_FnEmptyWitness : List (Nat × HSpec) := []
theorem hok_laws_FnEmptyWitness : HOK Try.prog h_laws_FnEmptyWitness := hok0
theorem c_laws_FnEmptyWitness (b : List Int) (hb : ∀ x ∈ b, 0 ≤ x ∧ x < 256) : ICall Try.prog 7 [.sl 1 (encBy b)] (.bool true) := by
  refine icall_V (G := g_laws_FnEmptyWitness) (H := []) [] tabOK mixed gok_laws_FnEmptyWitness hok_laws_FnEmptyWitness Try.func7 rfl Try.ntmps7 Try.results7 rfl (by kernel_rfl) fun F hN hlen => ?_
  have el := len_encBy b
  have bb : ∀ x : Bool, (x != x) = false := fun x => by simp
  have bb2 : ∀ x : Bool, (x == x) = true := fun x => by simp
  have hself : ∀ x : List Int, (x == x) = true := fun x => by simp
  simp only [V_seq, V_region, V_cond, W_nil, W_cons, effOp2, KN_seq, asB, effOp, effPure, pureV, binV, lenV, ofC, strip, lkT, ISt.app, opI, gO, gB, allB, gval, wrapG, dstOK, setD, enumT, Op.operands, Call.operands, List.append_toArray, reduceIte, reduceCtorEq, Nat.reduceLT, Nat.reduceEqDiff, ne_eq, not_false_eq_true, true_and, and_self, implies_true, List.nil_append, List.cons_append, List.append_nil, tab22, hN, el]
  refine brW_some (fun h => ?_) (fun h => ?_)
  · simp only [V_seq, V_ret, V_region, W_nil, W_cons, effOp2, KN_seq, KXr_nil, KXr_seq, QE, effOp, effPure, pureV, ofC, strip, lkT, lkH, ISt.app, opI, gO, gB, allB, gval, wrapG, dstOK, setD, clean, Gives, Ideal.Fin, conv, conv0, Op.operands, reduceIte, reduceCtorEq, Nat.reduceLT, Nat.reduceEqDiff, and_self, implies_true, List.nil_append, List.cons_append, List.append_nil, hN]
  · have hsz : b.length ≤ 1048576 := by simp at h; omega
    obtain ⟨l, hl⟩ : ∃ l, drawEW b = l := ⟨_, rfl⟩
    have ec := len_encQs (cornV l)
    cases hk : okHs l with
    | false =>
      have ho : optS (ewV l) = .tup [.sl 1 (encI []), .bool false] := by rw [ewV, hk]; rfl
      simp only [V_seq, V_skip, V_ret, V_region, V_cond, brW_true, W_nil, W_cons, effOp2, KN_seq, KXr_nil, KXr_seq, QE, asB, effOp, effPure, effPick, effCall, giveUp, hasAll, pureV, pickV, binV, ofC, strip, lkT, lkH, ISt.app, opI, gO, gB, allB, gval, wrapG, dstOK, setD, lendV, lendP, lent, lentP, idsV, idsL, lkHS, flat, flatL, clean, cleanL, callArgs, callFn, allLent, Gives, Ideal.Fin, conv, conv0, Op.operands, reduceIte, reduceCtorEq, cond_true, cond_false, Bool.or_false, Bool.and_true, Bool.not_true, Bool.not_false, Nat.reduceAdd, Nat.reduceLT, Nat.reduceEqDiff, Nat.zero_add, beq_self_eq_true, true_and, and_true, and_self, implies_true, forall_const, List.map_cons, List.map_nil, List.nil_append, List.cons_append, List.append_nil, Option.bind_some, List.getElem?_cons_zero, List.getElem?_cons_succ, List.getD_cons_zero, List.getD_cons_succ, List.length_cons, List.length_nil, ex_clo, or_true, or_self, Bool.true_eq_false, Bool.false_eq_true, tab4, hN, isTs_enc, toTs_enc, isIs_enc, toIs_enc, isBy_enc, toBy_enc, lk_laws_FnEmptyWitness_spec_DrawEmptyWitness, lk_laws_FnEmptyWitness_impl_EmptyWitness, lk_laws_FnEmptyWitness_spec_EmptyWitness, lk_laws_FnEmptyWitness_laws_equalInts, lk_laws_FnEmptyWitness_impl_ValidHalves, sp_spec_DrawEmptyWitness, sp_impl_EmptyWitness, sp_spec_EmptyWitness, sp_laws_equalInts, sp_impl_ValidHalves, hsz, hl, hk, ho]
      exact hb
    | true =>
      have hcn := ew_corn hk
      cases hc : ewV l with
      | none =>
        have ho : optS none = .tup [.sl 1 (encI []), .bool false] := rfl
        rw [hc] at hcn
        have d0 : ((((cornV l).length : Nat) : Int) == 0) = false := by rw [len_zero_empty]; exact hcn.symm
        simp only [V_seq, V_skip, V_ret, V_region, V_cond, brW_false, W_nil, W_cons, effOp2, KN_seq, KXr_nil, QE, asB, effOp, effPure, effPick, effCall, giveUp, hasAll, pureV, pickV, binV, lenV, ofC, strip, lkT, lkH, ISt.app, opI, gO, gB, allB, gval, wrapG, dstOK, setD, lendV, lendP, lent, lentP, idsV, idsL, lkHS, flat, flatL, clean, cleanL, callArgs, callFn, allLent, Gives, Ideal.Fin, conv, conv0, Op.operands, Call.operands, List.append_toArray, reduceIte, reduceCtorEq, cond_true, cond_false, Bool.or_false, Bool.or_true, Bool.and_true, Bool.and_false, Bool.false_and, Bool.not_true, Bool.not_false, Nat.reduceAdd, Nat.reduceLT, Nat.reduceEqDiff, Nat.zero_add, ne_eq, not_false_eq_true, beq_self_eq_true, true_and, and_true, false_and, and_false, and_self, false_implies, implies_true, forall_const, List.map_cons, List.map_nil, List.nil_append, List.cons_append, List.append_nil, Option.bind_some, List.getElem?_cons_zero, List.getElem?_cons_succ, List.getD_cons_zero, List.getD_cons_succ, List.length_cons, List.length_nil, ex_clo, btf, or_true, or_self, Bool.true_eq_false, Bool.false_eq_true, tab4, tab25, tab51, hN, isTs_enc, toTs_enc, isIs_enc, toIs_enc, isBy_enc, toBy_enc, lk_laws_FnEmptyWitness_spec_DrawEmptyWitness, lk_laws_FnEmptyWitness_impl_EmptyWitness, lk_laws_FnEmptyWitness_spec_EmptyWitness, lk_laws_FnEmptyWitness_laws_equalInts, lk_laws_FnEmptyWitness_impl_ValidHalves, lk_laws_FnEmptyWitness_impl_Corners, lk_laws_FnEmptyWitness_impl_CheckEmpty, sp_spec_DrawEmptyWitness, sp_impl_EmptyWitness, sp_spec_EmptyWitness, sp_laws_equalInts, sp_impl_ValidHalves, sp_impl_Corners, sp_impl_CheckEmpty, hsz, hl, hk, hc, ho, ec, d0]
        exact hb
      | some w =>
        have ho : optS (some w) = .tup [.sl 1 (encI (natI w)), .bool true] := rfl
        rw [hc] at hcn
        have d0 : ((((cornV l).length : Nat) : Int) == 0) = true := by rw [len_zero_empty]; exact hcn.symm
        obtain ⟨c1, c2, c3⟩ := ew_ck hc
        have ew := len_encI (natI w)
        rw [show (natI w).length = w.length from by rw [natI, List.length_map]] at ew
        have g1 : decide ((1 : Int) ≤ ((w.length : Nat) : Int)) = true := decide_eq_true (by omega)
        have g2 : decide (((w.length : Nat) : Int) ≤ (3 : Int)) = true := decide_eq_true (by omega)
        simp only [V_seq, V_skip, V_ret, V_region, V_cond, brW_false, W_nil, W_cons, effOp2, KN_seq, KXr_nil, QE, asB, effOp, effPure, effPick, effCall, giveUp, hasAll, pureV, pickV, binV, lenV, ofC, strip, lkT, lkH, ISt.app, opI, gO, gB, allB, gval, wrapG, dstOK, setD, lendV, lendP, lent, lentP, idsV, idsL, lkHS, flat, flatL, clean, cleanL, callArgs, callFn, allLent, Gives, Ideal.Fin, conv, conv0, Op.operands, Call.operands, List.append_toArray, reduceIte, reduceCtorEq, cond_true, cond_false, Bool.or_false, Bool.and_true, Bool.not_true, Nat.reduceAdd, Nat.reduceLT, Nat.reduceEqDiff, Nat.zero_add, ne_eq, not_false_eq_true, beq_self_eq_true, true_and, and_true, and_self, implies_true, forall_const, List.map_cons, List.map_nil, List.nil_append, List.cons_append, List.append_nil, Option.bind_some, List.getElem?_cons_zero, List.getElem?_cons_succ, List.getD_cons_zero, List.getD_cons_succ, List.length_cons, List.length_nil, ex_clo, or_true, or_self, Bool.true_eq_false, Bool.false_eq_true, tab4, tab25, tab51, hN, isTs_enc, toTs_enc, isIs_enc, toIs_enc, isBy_enc, toBy_enc, lk_laws_FnEmptyWitness_spec_DrawEmptyWitness, lk_laws_FnEmptyWitness_impl_EmptyWitness, lk_laws_FnEmptyWitness_spec_EmptyWitness, lk_laws_FnEmptyWitness_laws_equalInts, lk_laws_FnEmptyWitness_impl_ValidHalves, lk_laws_FnEmptyWitness_impl_Corners, lk_laws_FnEmptyWitness_impl_CheckEmpty, sp_spec_DrawEmptyWitness, sp_impl_EmptyWitness, sp_spec_EmptyWitness, sp_laws_equalInts, sp_impl_ValidHalves, sp_impl_Corners, sp_impl_CheckEmpty, hsz, hl, hk, hc, ho, ec, d0, c1, ew, g1, g2]
        exact hb
def sp_laws_FnEmptyWitness : PSpec := ⟨fun xs => match xs with | [.sl 1 bes] => isBy bes ∧ ((fun (b : List Int) => ∀ x ∈ b, 0 ≤ x ∧ x < 256) (toIs bes)) | _ => False, fun xs => match xs with | [.sl _ bes] => (fun (b : List Int) => .bool true) (toIs bes) | _ => .junk, false⟩
theorem gk_laws_FnEmptyWitness : ∀ args, sp_laws_FnEmptyWitness.pre args → ICall Try.prog 7 args (sp_laws_FnEmptyWitness.val args) := by
  intro args h
  unfold sp_laws_FnEmptyWitness at h ⊢; simp only at h ⊢; split at h
  · obtain ⟨h0, h1⟩ := h
    obtain ⟨l0, rfl⟩ := isBy_ex h0
    simp only [toBy_enc] at *
    exact c_laws_FnEmptyWitness _ h1
  · exact h.elim
theorem en_laws_FnEmptyWitness : Enters Try.prog 7 := enters_of Try.func7 (by kernel_rfl) rfl

def g_laws_FnCheckEmpty : List (Nat × PSpec) := [(33, sp_spec_DrawCheckEmpty), (34, sp_impl_CheckEmpty), (35, sp_spec_CheckEmpty), (36, sp_impl_Corners)]
theorem gok_laws_FnCheckEmpty : GOK Try.prog g_laws_FnCheckEmpty := gok_cons gk_spec_DrawCheckEmpty en_spec_DrawCheckEmpty (gok_cons gk_impl_CheckEmpty en_impl_CheckEmpty (gok_cons gk_spec_CheckEmpty en_spec_CheckEmpty (gok_cons gk_impl_Corners en_impl_Corners (gok0))))
theorem lk_laws_FnCheckEmpty_spec_DrawCheckEmpty : lkG g_laws_FnCheckEmpty 33 = sp_spec_DrawCheckEmpty := rfl
theorem lk_laws_FnCheckEmpty_impl_CheckEmpty : lkG g_laws_FnCheckEmpty 34 = sp_impl_CheckEmpty := rfl
theorem lk_laws_FnCheckEmpty_spec_CheckEmpty : lkG g_laws_FnCheckEmpty 35 = sp_spec_CheckEmpty := rfl
theorem lk_laws_FnCheckEmpty_impl_Corners : lkG g_laws_FnCheckEmpty 36 = sp_impl_Corners := rfl
def h_laws_FnCheckEmpty : List (Nat × HSpec) := []
theorem hok_laws_FnCheckEmpty : HOK Try.prog h_laws_FnCheckEmpty := hok0
theorem c_laws_FnCheckEmpty (b : List Int) (hb : ∀ x ∈ b, 0 ≤ x ∧ x < 256) : ICall Try.prog 6 [.sl 1 (encBy b)] (.bool true) := by
  refine icall_V (G := g_laws_FnCheckEmpty) (H := []) [] tabOK mixed gok_laws_FnCheckEmpty hok_laws_FnCheckEmpty Try.func6 rfl Try.ntmps6 Try.results6 rfl (by kernel_rfl) fun F hN hlen => ?_
  have el := len_encBy b
  have bb : ∀ x : Bool, (x != x) = false := fun x => by simp
  simp only [V_seq, V_region, V_cond, W_nil, W_cons, effOp2, KN_seq, asB, effOp, effPure, pureV, binV, lenV, ofC, strip, lkT, ISt.app, opI, gO, gB, allB, gval, wrapG, dstOK, setD, enumT, Op.operands, Call.operands, List.append_toArray, reduceIte, reduceCtorEq, Nat.reduceLT, Nat.reduceEqDiff, ne_eq, not_false_eq_true, true_and, and_self, implies_true, List.nil_append, List.cons_append, List.append_nil, tab22, hN, el]
  refine brW_some (fun h => ?_) (fun h => ?_)
  · simp only [V_seq, V_ret, V_region, W_nil, W_cons, effOp2, KN_seq, KXr_nil, KXr_seq, QE, effOp, effPure, pureV, ofC, strip, lkT, lkH, ISt.app, opI, gO, gB, allB, gval, wrapG, dstOK, setD, clean, Gives, Ideal.Fin, conv, conv0, Op.operands, reduceIte, reduceCtorEq, Nat.reduceLT, Nat.reduceEqDiff, and_self, implies_true, List.nil_append, List.cons_append, List.append_nil, hN]
  · have hsz : b.length ≤ 1048576 := by simp at h; omega
    obtain ⟨l, hl⟩ : ∃ l, drawEW b = l := ⟨_, rfl⟩
    obtain ⟨w, hw⟩ : ∃ w, drawCW b = w := ⟨_, rfl⟩
    cases hk : ckB l w with
    | false =>
      simp only [V_seq, V_skip, V_ret, V_region, V_cond, brW_false, W_nil, W_cons, effOp2, KN_seq, KXr_nil, QE, asB, effOp, effPure, effPick, effCall, giveUp, hasAll, pureV, pickV, binV, lenV, ofC, strip, lkT, lkH, ISt.app, opI, gO, gB, allB, gval, wrapG, dstOK, setD, lendV, lendP, lent, lentP, idsV, idsL, lkHS, flat, flatL, clean, cleanL, callArgs, callFn, allLent, Gives, Ideal.Fin, conv, conv0, Op.operands, Call.operands, List.append_toArray, reduceIte, reduceCtorEq, cond_true, cond_false, Bool.or_false, Bool.or_true, Bool.and_true, Bool.and_false, Bool.not_true, Bool.not_false, Nat.reduceAdd, Nat.reduceLT, Nat.reduceEqDiff, Nat.zero_add, ne_eq, not_false_eq_true, beq_self_eq_true, true_and, and_true, and_false, and_self, false_implies, implies_true, forall_const, List.map_cons, List.map_nil, List.nil_append, List.cons_append, List.append_nil, Option.bind_some, List.getElem?_cons_zero, List.getElem?_cons_succ, List.getD_cons_zero, List.getD_cons_succ, List.length_cons, List.length_nil, ex_clo, btf, or_true, or_self, Bool.true_eq_false, Bool.false_eq_true, tab4, tab51, hN, isTs_enc, toTs_enc, isIs_enc, toIs_enc, isBy_enc, toBy_enc, lk_laws_FnCheckEmpty_spec_DrawCheckEmpty, lk_laws_FnCheckEmpty_impl_CheckEmpty, lk_laws_FnCheckEmpty_spec_CheckEmpty, lk_laws_FnCheckEmpty_impl_Corners, sp_spec_DrawCheckEmpty, sp_impl_CheckEmpty, sp_spec_CheckEmpty, sp_impl_Corners, hsz, hl, hw, hk]
      exact hb
    | true =>
      have hc := ck_corn hk
      have e0 : (encQs []).length = 0 := rfl
      have d0 : ((((0 : Nat) : Int)) == 0) = true := rfl
      simp only [V_seq, V_skip, V_ret, V_region, V_cond, brW_false, W_nil, W_cons, effOp2, KN_seq, KXr_nil, QE, asB, effOp, effPure, effPick, effCall, giveUp, hasAll, pureV, pickV, binV, lenV, ofC, strip, lkT, lkH, ISt.app, opI, gO, gB, allB, gval, wrapG, dstOK, setD, lendV, lendP, lent, lentP, idsV, idsL, lkHS, flat, flatL, clean, cleanL, callArgs, callFn, allLent, Gives, Ideal.Fin, conv, conv0, Op.operands, Call.operands, List.append_toArray, reduceIte, reduceCtorEq, cond_true, cond_false, Bool.or_false, Bool.and_true, Bool.and_false, Bool.not_true, Nat.reduceAdd, Nat.reduceLT, Nat.reduceEqDiff, Nat.zero_add, ne_eq, not_false_eq_true, beq_self_eq_true, true_and, and_true, and_self, implies_true, forall_const, List.map_cons, List.map_nil, List.nil_append, List.cons_append, List.append_nil, Option.bind_some, List.getElem?_cons_zero, List.getElem?_cons_succ, List.getD_cons_zero, List.getD_cons_succ, List.length_cons, List.length_nil, ex_clo, or_true, or_self, Bool.false_eq_true, tab4, tab51, hN, isTs_enc, toTs_enc, isIs_enc, toIs_enc, isBy_enc, toBy_enc, lk_laws_FnCheckEmpty_spec_DrawCheckEmpty, lk_laws_FnCheckEmpty_impl_CheckEmpty, lk_laws_FnCheckEmpty_spec_CheckEmpty, lk_laws_FnCheckEmpty_impl_Corners, sp_spec_DrawCheckEmpty, sp_impl_CheckEmpty, sp_spec_CheckEmpty, sp_impl_Corners, hsz, hl, hw, hk, hc, e0, d0]
      exact hb
def sp_laws_FnCheckEmpty : PSpec := ⟨fun xs => match xs with | [.sl 1 bes] => isBy bes ∧ ((fun (b : List Int) => ∀ x ∈ b, 0 ≤ x ∧ x < 256) (toIs bes)) | _ => False, fun xs => match xs with | [.sl _ bes] => (fun (b : List Int) => .bool true) (toIs bes) | _ => .junk, false⟩
theorem gk_laws_FnCheckEmpty : ∀ args, sp_laws_FnCheckEmpty.pre args → ICall Try.prog 6 args (sp_laws_FnCheckEmpty.val args) := by
  intro args h
  unfold sp_laws_FnCheckEmpty at h ⊢; simp only at h ⊢; split at h
  · obtain ⟨h0, h1⟩ := h
    obtain ⟨l0, rfl⟩ := isBy_ex h0
    simp only [toBy_enc] at *
    exact c_laws_FnCheckEmpty _ h1
  · exact h.elim
theorem en_laws_FnCheckEmpty : Enters Try.prog 6 := enters_of Try.func6 (by kernel_rfl) rfl

end Go.Proofs.Ytemppebemahkoaa
