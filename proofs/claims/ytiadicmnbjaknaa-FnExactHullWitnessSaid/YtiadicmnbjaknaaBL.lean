/- Contracts: lists of points turned round; lists of lists of points. -/
import Derived.Test.YtiadicmnbjaknaaBU
set_option linter.unusedVariables false
set_option linter.unusedSimpArgs false
set_option maxHeartbeats 1600000
set_option maxRecDepth 100000
namespace Go.Proofs.Ytiadicmnbjaknaa
open Go Go.Ideal Go.Pl Go.Sort

theorem getD_map_L {α β : Type} {f : α → β} {d : α} {e : β} {l : List α} {i : Nat} (h : i < l.length) : (l.map f).getD i e = f (l.getD i d) := by simp [List.getD, h]
def g_spec_reversed : List (Nat × PSpec) := []
theorem gok_spec_reversed : GOK Try.prog g_spec_reversed := gok0
def h_spec_reversed : List (Nat × HSpec) := []
theorem hok_spec_reversed : HOK Try.prog h_spec_reversed := hok0
theorem c_spec_reversed (l : List Pt) (hsz : l.length ≤ 1000000) : ICall Try.prog 27 [.sl 2 (encPs l)] (.sl 2 (encPs l.reverse)) := by
  refine icall_V (G := g_spec_reversed) (H := []) [] tabOK mixed gok_spec_reversed hok_spec_reversed Try.func27 rfl Try.ntmps27 Try.results27 rfl (by kernel_rfl) fun F hN hlen => ?_
  have el := len_encPs l
  have hl : l.length ≤ maxLen := by rw [maxLen_eq]; omega
  have hw0 : IntKind.i64.wrap ((l.length : Int) - 1) = (l.length : Int) - 1 := wr (by omega) (by omega)
  simp only [V_seq, V_block, V_region, W_nil, W_cons, effOp2, KN_seq, effOp, effPure, effNew, effBuildSlice, effFrz, frz, tmpsOf, skipE, pureV, binV, lenV, ofC, strip, lkT, ISt.app, opI, gO, gB, allB, gval, wrapG, dstOK, setD, mentTm, mentHp, IV.ment, partsL, eltsI, enumT, Op.operands, Call.operands, List.append_toArray, reduceIte, reduceCtorEq, cond_true, Bool.or_false, Nat.reduceMul, Nat.reduceLT, Nat.reduceLeDiff, Nat.reduceEqDiff, ne_eq, not_false_eq_true, true_and, and_self, implies_true, List.nil_append, List.cons_append, List.append_nil, List.length_nil, tab26, tab38, hN, el, hw0]
  refine V_loop (α := Nat) ⟨tabOK, mixed, gok_spec_reversed.toF F, hok_spec_reversed⟩ (by kernel_rfl) (fun i => i ≤ l.length) (fun i => ⟨[(4, .num .i64 ((i : Int) - 1)), (3, .ref 5 0 (l.length - i) true), (0, .sl 2 (encPs l))], [(5, some (.arr 2 38 (encPs (l.drop i).reverse)))]⟩) (fun i => i) l.length id (Nat.le_refl _) (by simp [SLe, SLe0, convTm, convHp, convB, conv, conv0, lkT, lkH, clean, encPs]) ?_
  intro i hi
  simp only [V_seq, V_region, V_cond, W_nil, W_cons, effOp2, KN_seq, asB, effOp, effPure, pureV, binV, ofC, strip, lkT, ISt.app, opI, gO, gB, allB, gval, wrapG, dstOK, setD, Op.operands, reduceIte, reduceCtorEq, Nat.reduceLT, Nat.reduceEqDiff, true_and, and_self, implies_true, List.nil_append, List.cons_append, hN]
  refine brW_some (fun h => ?_) (fun h => ?_)
  · obtain ⟨j, rfl⟩ : ∃ j, i = j + 1 := ⟨i - 1, by simp at h; omega⟩
    have hj : j < l.length := by omega
    have g1 := getD_encPs hj
    have e1 : ((j + 1 : Nat) : Int) - 1 = (j : Int) := by omega
    have hw : IntKind.i64.wrap ((j : Int) - 1) = (j : Int) - 1 := wr (by omega) (by omega)
    have e2 : (encPs (l.drop (j + 1)).reverse).length = l.length - (j + 1) := by simp [encPs]
    simp only [V_seq, V_skip, V_block, V_region, W_nil, W_cons, effOp2, KN_seq, KN_block, KN_back, effOp, effPure, effNew, effBuildSlice, effFrz, frz, tmpsOf, effAppend, effZeros, skipE, pureV, srcV, refId, binV, partV, eltV, loadV, iaddrV, ofC, strip, lkT, lkH, ISt.app, opI, gO, gB, allB, gval, wrapG, dstOK, setD, mentTm, mentHp, IV.ment, IV.mentL, partsL, eltsI, eltI, oneI, noId', Op.operands, reduceIte, reduceCtorEq, cond_true, Bool.or_false, Bool.and_true, Nat.reduceAdd, Nat.reduceMul, Nat.reduceLT, Nat.reduceLeDiff, Nat.reduceEqDiff, Nat.reduceBEq, Nat.zero_add, ne_eq, not_false_eq_true, true_and, and_true, and_false, and_self, implies_true, forall_const, List.nil_append, List.cons_append, List.append_nil, List.all_cons, List.all_nil, Option.some.injEq, List.getD_cons_zero, List.length_cons, List.length_nil, List.take_succ_cons, List.take_nil, List.drop_zero, tab26, tab38, hN, Int.toNat_natCast, el, Int.toNat_natCast, e1, g1, hw, e2]
    refine ⟨⟨by omega, by omega⟩, ⟨by omega, by omega⟩, j, fun q => if q = 5 then 19 else q, by simp only []; omega, by simp only []; omega, ?_⟩
    have e3 : l.length - j = l.length - (j + 1) + 1 := by omega
    have e4 : encPs (l.drop j).reverse = (encPs (l.drop (j + 1)).reverse).take (l.length - (j + 1)) ++ encPs [pAt l j] := by
      rw [drop_eq_g (d := (0, 0)) hj, List.reverse_cons, ← encPs_app, List.take_of_length_le (by rw [e2]; exact Nat.le_refl _)]
    simp [SLe, SLe0, convTm, convHp, convB, conv, conv0, lkT, lkH, clean, e3]
    exact ⟨take_eq_of e4, fun i h1 h2 h3 => by omega⟩
  · have hi0 : i = 0 := by simp at h; omega
    subst hi0
    simp only [V_seq, V_ret, V_exit, V_region, W_nil, W_cons, effOp2, KN_seq, KXr_nil, KXe_nil, KXe_seq, KXe_block, KXe_back, QE, effOp, effPure, pureV, strip, lkT, lkH, ISt.app, opI, gO, gB, allB, gval, wrapG, dstOK, setD, Gives, Ideal.Fin, conv, conv0, Op.operands, reduceIte, reduceCtorEq, Nat.reduceLT, Nat.reduceEqDiff, Nat.zero_add, ne_eq, true_and, and_self, implies_true, List.nil_append, List.cons_append, Option.some.injEq, List.drop_zero, hN]
    exact ⟨_, _, rfl, by simp [encPs], take_eq_of' rfl (by simp [encPs]), by simp⟩
def sp_spec_reversed : PSpec := ⟨fun xs => match xs with | [.sl 2 les] => isPs les ∧ ((fun (l : List Pt) => l.length ≤ 1000000) (toPs les)) | _ => False, fun xs => match xs with | [.sl _ les] => (fun (l : List Pt) => .sl 2 (encPs l.reverse)) (toPs les) | _ => .junk, false⟩
theorem gk_spec_reversed : ∀ args, sp_spec_reversed.pre args → ICall Try.prog 27 args (sp_spec_reversed.val args) := by
  intro args h
  unfold sp_spec_reversed at h ⊢; simp only at h ⊢; split at h
  · obtain ⟨h0, h1⟩ := h
    obtain ⟨l0, rfl⟩ := isP_ex h0
    try simp only [toPs_enc] at *
    exact c_spec_reversed _ h1
  · exact h.elim
theorem en_spec_reversed : Enters Try.prog 27 := enters_of Try.func27 (by kernel_rfl) rfl


def encLs (Ls : List (List Pt)) : List IV := Ls.map fun l => .sl 2 (encPs l)
theorem getD_encLs {Ls : List (List Pt)} {i : Nat} (h : i < Ls.length) : (encLs Ls).getD i .junk = .sl 2 (encPs (Ls.getD i [])) := by
  rw [encLs, getD_map_L (d := []) h]

end Go.Proofs.Ytiadicmnbjaknaa
