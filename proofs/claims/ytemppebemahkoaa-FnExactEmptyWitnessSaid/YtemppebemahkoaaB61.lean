/- The first three half-planes whose region is empty: spec.EmptyWitness. -/
import Derived.Test.YtemppebemahkoaaB60
import Derived.Test.YtemppebemahkoaaB33
set_option linter.unusedVariables false
set_option linter.unusedSimpArgs false
set_option maxHeartbeats 16000000
set_option maxRecDepth 100000
namespace Go.Proofs.Ytemppebemahkoaa
open Go Go.Ideal Go.Pl Go.Sort

theorem selL_natI (l : List Tr) (w : List Nat) : selL l (natI w) = selN l w := by
  simp only [selL, selN, natI, List.map_map]
  exact List.map_congr_left fun x _ => by simp [tAt, hA]
/-- The witness that is to be found. -/
def ewV (l : List Tr) : Option (List Nat) := if okHs l then srchP (empB l) l.length else none
def optS (o : Option (List Nat)) : IV := .tup [.sl 1 (encN (o.getD [])), .bool o.isSome]
def g_spec_EmptyWitness : List (Nat × PSpec) := [(80, sp_spec_validHalves), (81, sp_spec_corners), (82, sp_spec_subsets), (83, sp_spec_selected)]
theorem gok_spec_EmptyWitness : GOK Try.prog g_spec_EmptyWitness := gok_cons gk_spec_validHalves en_spec_validHalves (gok_cons gk_spec_corners en_spec_corners (gok_cons gk_spec_subsets en_spec_subsets (gok_cons gk_spec_selected en_spec_selected (gok0))))
theorem lk_spec_EmptyWitness_spec_validHalves : lkG g_spec_EmptyWitness 80 = sp_spec_validHalves := rfl
theorem lk_spec_EmptyWitness_spec_corners : lkG g_spec_EmptyWitness 81 = sp_spec_corners := rfl
theorem lk_spec_EmptyWitness_spec_subsets : lkG g_spec_EmptyWitness 82 = sp_spec_subsets := rfl
theorem lk_spec_EmptyWitness_spec_selected : lkG g_spec_EmptyWitness 83 = sp_spec_selected := rfl
def h_spec_EmptyWitness : List (Nat × HSpec) := []
theorem hok_spec_EmptyWitness : HOK Try.prog h_spec_EmptyWitness := hok0
theorem c_spec_EmptyWitness (l : List Tr)  : ICall Try.prog 28 [.sl 3 (encTs l)] (optS (ewV l)) := by
  refine icall_V (G := g_spec_EmptyWitness) (H := []) [] tabOK mixed gok_spec_EmptyWitness hok_spec_EmptyWitness Try.func28 rfl Try.ntmps28 Try.results28 rfl (by kernel_rfl) fun F hN hlen => ?_
  have el := len_encTs l
  cases hk : okHs l with
  | false =>
    have hv : optS (ewV l) = .tup [.sl 1 [], .bool false] := by rw [ewV, hk]; rfl
    have hc : ∃ es, (IV.sl 4 es) = IV.sl 4 es := ⟨[], rfl⟩
    simp only [V_seq, V_ret, V_region, V_cond, brW_true, W_nil, W_cons, effOp2, KN_seq, KXr_nil, KXr_seq, QE, asB, effOp, effPure, effPick, effCall, giveUp, hasAll, pureV, pickV, binV, lenV, ofC, strip, lkT, lkH, ISt.app, opI, gO, gB, allB, gval, wrapG, dstOK, setD, lendV, lendP, lent, lentP, idsV, idsL, lkHS, flat, clean, callArgs, callFn, allLent, enumT, Gives, Ideal.Fin, conv, conv0, Op.operands, Call.operands, List.append_toArray, reduceIte, reduceCtorEq, cond_true, Bool.or_false, Bool.or_true, Bool.not_true, Bool.not_false, Nat.reduceLT, Nat.reduceEqDiff, ne_eq, not_false_eq_true, true_and, and_true, false_and, and_false, and_self, false_implies, implies_true, List.map_cons, List.map_nil, List.nil_append, List.cons_append, List.append_nil, Option.bind_some, List.getElem?_cons_zero, List.getElem?_cons_succ, ex_clo, btf, or_true, or_self, Bool.true_eq_false, Bool.false_eq_true, tab51, hN, isTs_enc, toTs_enc, lk_spec_EmptyWitness_spec_validHalves, lk_spec_EmptyWitness_spec_corners, sp_spec_validHalves, sp_spec_corners, hk, hv]
  | true =>
    have hs := okHs_sm hk
    have hl : l.length ≤ 8 := by simp [okHs] at hk; exact hk.2
    cases hc : cornP l with
    | cons q m =>
      have hv : optS (ewV l) = .tup [.sl 1 [], .bool false] := by
        have := witness_iff l
        rw [hc] at this
        cases h : srchP (empB l) l.length with
        | none => rw [ewV, hk, if_pos rfl, h]; rfl
        | some w => rw [h] at this; simp at this
      have e1 := len_encQs (q :: m)
      have d1 : decide ((0 : Int) < ((m.length + 1 : Nat) : Int)) = true := decide_eq_true (by omega)
      simp only [V_seq, V_ret, V_region, V_cond, brW_true, W_nil, W_cons, effOp2, KN_seq, KXr_nil, KXr_seq, QE, asB, effOp, effPure, effPick, effCall, giveUp, hasAll, pureV, pickV, binV, lenV, ofC, strip, lkT, lkH, ISt.app, opI, gO, gB, allB, gval, wrapG, dstOK, setD, lendV, lendP, lent, lentP, idsV, idsL, lkHS, flat, clean, callArgs, callFn, allLent, enumT, Gives, Ideal.Fin, conv, conv0, Op.operands, Call.operands, List.append_toArray, reduceIte, reduceCtorEq, cond_true, cond_false, Bool.or_false, Bool.not_true, Nat.reduceLT, Nat.reduceEqDiff, ne_eq, not_false_eq_true, beq_self_eq_true, true_and, and_true, and_self, implies_true, forall_const, List.map_cons, List.map_nil, List.nil_append, List.cons_append, List.append_nil, Option.bind_some, List.getElem?_cons_zero, List.getElem?_cons_succ, List.length_cons, ex_clo, or_true, or_self, Bool.false_eq_true, tab51, hN, isTs_enc, toTs_enc, lk_spec_EmptyWitness_spec_validHalves, lk_spec_EmptyWitness_spec_corners, sp_spec_validHalves, sp_spec_corners, hk, hv, hc, e1, d1]
      exact ⟨hs, by omega⟩
    | nil =>
      have e1 : (encQs []).length = 0 := rfl
      have d1 : decide ((0 : Int) < ((0 : Nat) : Int)) = false := rfl
      simp only [V_seq, V_skip, V_block, V_region, V_cond, brW_false, W_nil, W_cons, effOp2, KN_seq, asB, effOp, effPure, effPick, effCall, giveUp, hasAll, pureV, pickV, binV, lenV, ofC, strip, lkT, lkH, ISt.app, opI, gO, gB, allB, gval, wrapG, dstOK, setD, lendV, lendP, lent, lentP, idsV, idsL, lkHS, flat, clean, callArgs, callFn, allLent, enumT, Op.operands, Call.operands, List.append_toArray, reduceIte, reduceCtorEq, cond_true, cond_false, Bool.or_false, Bool.not_true, Nat.reduceLT, Nat.reduceEqDiff, ne_eq, not_false_eq_true, beq_self_eq_true, true_and, and_true, and_self, implies_true, forall_const, List.map_cons, List.map_nil, List.nil_append, List.cons_append, List.append_nil, Option.bind_some, List.getElem?_cons_zero, List.getElem?_cons_succ, ex_clo, or_true, or_self, Bool.false_eq_true, tab43, tab51, hN, Int.toNat_natCast, isTs_enc, toTs_enc, lk_spec_EmptyWitness_spec_validHalves, lk_spec_EmptyWitness_spec_corners, lk_spec_EmptyWitness_spec_subsets, sp_spec_validHalves, sp_spec_corners, sp_spec_subsets, el, hk, hc, e1, d1]
      refine ⟨⟨hs, by omega⟩, ⟨by omega, by omega⟩, ?_⟩
      have hS := subs_len (n := l.length) (by omega)
      have hm : ∀ w ∈ subs l.length, 1 ≤ w.length ∧ w.length ≤ 3 ∧ ∀ x ∈ w, x < l.length := fun w hw => by
        obtain ⟨a1, a2, a3⟩ := mem_subs.1 hw
        exact ⟨a1, a2, fun x hx => (up_lt a3 x hx).2⟩
      have hsr : srchP (empB l) l.length = (subs l.length).find? (empB l) := rfl
      obtain ⟨S, hSe⟩ : ∃ S, subs l.length = S := ⟨_, rfl⟩
      rw [hSe] at hS hm hsr
      simp only [hSe]
      have eS := len_encLL S
      refine V_loop (α := Nat) ⟨tabOK, mixed, gok_spec_EmptyWitness, hok_spec_EmptyWitness⟩ (by kernel_rfl) (fun i => i ≤ S.length ∧ (S.take i).find? (empB l) = none) (fun i => ⟨[(5, .num .i64 i), (4, .sl 1 (encLL S)), (0, .sl 3 (encTs l))], []⟩) (fun i => S.length - i) 0 id ⟨by omega, rfl⟩ (by simp [SLe, SLe0, convTm, convHp, conv, conv0, lkT, lkH, clean]) ?_
      rintro i ⟨hi, hno⟩
      simp only [V_seq, V_region, V_cond, W_nil, W_cons, effOp2, KN_seq, asB, effOp, effPure, pureV, binV, lenV, strip, lkT, ISt.app, opI, gO, gB, allB, gval, wrapG, dstOK, setD, Op.operands, Call.operands, List.append_toArray, reduceIte, reduceCtorEq, Nat.reduceLT, Nat.reduceEqDiff, ne_eq, not_false_eq_true, true_and, and_self, implies_true, List.nil_append, List.cons_append, List.append_nil, tab94, hN, eS]
      refine brW_some (fun h => ?_) (fun h => ?_)
      · have hi' : i < S.length := by simpa using h
        have hw := wr_succ hi' (by rw [maxLen_eq]; omega)
        have g := getD_encLL hi'
        obtain ⟨w, hwe⟩ : ∃ w, S.getD i [] = w := ⟨_, rfl⟩
        have hiw : S[i]? = some w := by rw [← hwe, List.getD, List.getElem?_eq_getElem hi']; rfl
        rw [hwe] at g
        obtain ⟨m1, m2, m3⟩ := hm w (List.mem_of_getElem? hiw)
        have hst := find_step hiw hno
        have hK := selL_natI l w
        have en := encN_natI w
        have hW1 : ∀ x ∈ natI w, 0 ≤ x ∧ x < (l.length : Int) := by
          intro x hx
          obtain ⟨y, hy, rfl⟩ := List.mem_map.1 hx
          have := m3 y hy
          exact ⟨by omega, by omega⟩
        have hW2 : (natI w).length ≤ 3 := by rw [natI, List.length_map]; exact m2
        have hKs : ∀ k ∈ selN l w, smH k := fun k hk => hs k (sel_mem m3 k hk)
        have hKl : (selN l w).length ≤ 100 := by rw [selN, List.length_map]; omega
        have hemp : empB l w = (cornP (selN l w)).isEmpty := rfl
        have e2 := len_encQs (cornP (selN l w))
        simp only [V_seq, V_skip, V_block, V_region, V_cond, W_nil, W_cons, effOp2, KN_seq, asB, effOp, effPure, effCall, giveUp, hasAll, pureV, binV, eltV, loadV, iaddrV, lenV, ofC, strip, lkT, lkH, ISt.app, opI, gO, gB, allB, gval, wrapG, dstOK, setD, lendV, lendP, lent, lentP, idsV, idsL, lkHS, flat, clean, callArgs, callFn, allLent, Op.operands, Call.operands, List.append_toArray, reduceIte, reduceCtorEq, cond_false, Bool.or_false, Bool.not_true, Nat.reduceLT, Nat.reduceEqDiff, ne_eq, not_false_eq_true, true_and, and_true, and_self, implies_true, forall_const, List.map_cons, List.map_nil, List.nil_append, List.cons_append, List.append_nil, ex_clo, or_true, Bool.false_eq_true, tab25, tab51, tab94, hN, Int.toNat_natCast, isTs_enc, toTs_enc, isIs_enc, toIs_enc, lk_spec_EmptyWitness_spec_corners, lk_spec_EmptyWitness_spec_selected, sp_spec_corners, sp_spec_selected, eS, g, en, hK, hW2, hKl, e2, len_zero_empty, ← hemp]
        refine ⟨⟨by omega, by omega⟩, hW1, hKs, ?_⟩
        refine brW_some (fun h2 => ?_) (fun h2 => ?_)
        · have hv : optS (ewV l) = .tup [.sl 1 (encI (natI w)), .bool true] := by
            rw [h2, if_pos rfl] at hst
            rw [ewV, hk, if_pos rfl, hsr, find_pre hst]; rfl
          simp only [V_seq, V_ret, V_region, W_nil, W_cons, effOp2, KN_seq, KXr_nil, KXr_seq, KXr_block, KXr_back, QE, effOp, effPure, pureV, eltV, loadV, iaddrV, ofC, strip, lkT, lkH, ISt.app, opI, gO, gB, allB, gval, wrapG, dstOK, setD, clean, Gives, Ideal.Fin, conv, conv0, Op.operands, reduceIte, reduceCtorEq, Nat.reduceLT, Nat.reduceEqDiff, ne_eq, not_false_eq_true, true_and, and_true, and_self, implies_true, forall_const, List.nil_append, List.cons_append, List.append_nil, tab25, tab94, hN, Int.toNat_natCast, eS, g, en, hv]
          exact ⟨by omega, by omega⟩
        · rw [h2, if_neg (by decide)] at hst
          simp only [V_skip, V_region, W_nil, W_cons, effOp2, KN_seq, KN_block, KN_back, effOp, effPure, pureV, binV, ofC, strip, lkT, ISt.app, opI, gO, gB, allB, gval, wrapG, dstOK, setD, Op.operands, reduceIte, reduceCtorEq, Nat.reduceLT, Nat.reduceEqDiff, true_and, and_self, implies_true, List.nil_append, List.cons_append, List.append_nil, hN, hw]
          exact ⟨i + 1, id, ⟨by omega, hst⟩, by simp only []; omega, by simp [SLe, SLe0, convTm, convHp, conv, conv0, lkT, lkH, clean]⟩
      · have hie : i = S.length := by simp at h; omega
        have hv : optS (ewV l) = .tup [.sl 1 [], .bool false] := by
          rw [hie, List.take_length] at hno
          rw [ewV, hk, if_pos rfl, hsr, hno]; rfl
        simp only [V_seq, V_ret, V_exit, V_region, W_nil, W_cons, effOp2, KN_seq, KXr_nil, KXe_nil, KXe_seq, KXe_block, KXe_back, QE, effOp, effPure, pureV, ofC, strip, lkT, lkH, ISt.app, opI, gO, gB, allB, gval, wrapG, dstOK, setD, clean, Gives, Ideal.Fin, conv, conv0, Op.operands, reduceIte, reduceCtorEq, Nat.reduceLT, Nat.reduceEqDiff, and_self, implies_true, List.nil_append, List.cons_append, List.append_nil, hN, hv]
def sp_spec_EmptyWitness : PSpec := ⟨fun xs => match xs with | [.sl 3 les] => isTs les | _ => False, fun xs => match xs with | [.sl _ les] => (fun (l : List Tr) => optS (ewV l)) (toTs les) | _ => .junk, false⟩
theorem gk_spec_EmptyWitness : ∀ args, sp_spec_EmptyWitness.pre args → ICall Try.prog 28 args (sp_spec_EmptyWitness.val args) := by
  intro args h
  unfold sp_spec_EmptyWitness at h ⊢; simp only at h ⊢; split at h
  · have h0 := h
    obtain ⟨l0, rfl⟩ := isT_ex h0
    simp only [toTs_enc] at *
    exact c_spec_EmptyWitness _ 
  · exact h.elim
theorem en_spec_EmptyWitness : Enters Try.prog 28 := enters_of Try.func28 (by kernel_rfl) rfl

end Go.Proofs.Ytemppebemahkoaa
