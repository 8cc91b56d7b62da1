/- Contracts: pairs of indices. -/
import Derived.Test.YtlcndghaendieaaB2
import Derived.Test.YtlcndghaendieaaBU
import Derived.Test.YtlcndghaendieaaPl18
set_option linter.unusedVariables false
set_option linter.unusedSimpArgs false
set_option maxHeartbeats 1600000
set_option maxRecDepth 100000
namespace Go.Proofs.Ytlcndghaendieaa
open Go Go.Ideal Go.Pl Go.Sort

def g_impl_pairs : List (Nat × PSpec) := []
theorem gok_impl_pairs : GOK Try.prog g_impl_pairs := gok0
def h_impl_pairs : List (Nat × HSpec) := []
theorem hok_impl_pairs : HOK Try.prog h_impl_pairs := hok0
theorem c_impl_pairs (n : Int) (h0 : 0 ≤ n) (h1 : n ≤ 1000) : ICall Try.prog 40 [.num .i64 n] (.sl 2 (encPs (prs n.toNat n.toNat))) := by
  refine icall_V (G := g_impl_pairs) (H := []) [] tabOK mixed gok_impl_pairs hok_impl_pairs Try.func40 rfl Try.ntmps40 Try.results40 rfl (by kernel_rfl) fun F hN hlen => ?_
  obtain ⟨m, rfl⟩ : ∃ m : Nat, n = m := ⟨n.toNat, by omega⟩
  rw [Int.toNat_natCast]
  simp only [V_seq, V_block, V_region, W_nil, W_cons, effOp2, KN_seq, effOp, effPure, effNew, effBuildSlice, effFrz, frz, tmpsOf, skipE, pureV, ofC, strip, lkT, ISt.app, opI, gO, gB, allB, gval, wrapG, dstOK, setD, mentTm, mentHp, IV.ment, partsL, eltsI, enumT, Op.operands, reduceIte, reduceCtorEq, cond_true, Bool.or_false, Nat.reduceMul, Nat.reduceLT, Nat.reduceLeDiff, Nat.reduceEqDiff, ne_eq, not_false_eq_true, true_and, and_self, implies_true, List.nil_append, List.cons_append, List.append_nil, List.length_nil, tab32, tab59, hN]
  refine V_loop (α := Nat) ⟨tabOK, mixed, gok_impl_pairs, hok_impl_pairs⟩ (by kernel_rfl) (fun i => i ≤ m) (fun i => ⟨[(8, .num .i64 i), (7, .num .i64 m), (3, .ref 6 0 (prs m i).length true), (0, .num .i64 m)], [(6, some (.arr 2 59 (encPs (prs m i))))]⟩) (fun i => m - i) 0 id (Nat.zero_le _) (by simp [SLe, SLe0, convTm, convHp, convB, conv, conv0, lkT, lkH, clean, prs, encPs]) ?_
  intro i hi
  simp only [V_seq, V_region, V_cond, W_nil, W_cons, effOp2, KN_seq, asB, effOp, effPure, pureV, binV, strip, lkT, ISt.app, opI, gO, gB, allB, gval, wrapG, dstOK, setD, Op.operands, reduceIte, reduceCtorEq, Nat.reduceLT, Nat.reduceEqDiff, true_and, and_self, implies_true, List.nil_append, List.cons_append, hN]
  refine brW_some (fun h => ?_) (fun h => ?_)
  · have hi' : i < m := by simpa using h
    have hw := wr_succ hi' (by rw [maxLen_eq]; omega)
    have hp0 := prs_len m i
    have hmi : m * i ≤ 1000 * 1000 := Nat.mul_le_mul (by omega) (by omega)
    simp only [V_seq, V_skip, V_block, V_region, W_nil, W_cons, effOp2, KN_seq, effOp, effPure, pureV, binV, ofC, strip, lkT, ISt.app, opI, gO, gB, allB, gval, wrapG, dstOK, setD, Op.operands, reduceIte, reduceCtorEq, Nat.reduceLT, Nat.reduceEqDiff, true_and, and_self, implies_true, List.nil_append, List.cons_append, hN, hw]
    refine V_loop (α := Nat) ⟨tabOK, mixed, gok_impl_pairs, hok_impl_pairs⟩ (by kernel_rfl) (fun k => k ≤ m - (i + 1)) (fun k => ⟨[(5, .num .i64 ((i + 1 + k : Nat) : Int)), (4, .num .i64 i), (8, .num .i64 i), (7, .num .i64 m), (3, .ref 6 0 (prs m i ++ prow i k).length true), (0, .num .i64 m)], [(6, some (.arr 2 59 (encPs (prs m i ++ prow i k))))]⟩) (fun k => m - k) 0 id (Nat.zero_le _) (by simp [SLe, SLe0, convTm, convHp, convB, conv, conv0, lkT, lkH, clean, prow, encPs]; exact (List.take_of_length_le (by simp)).symm) ?_
    intro k hk
    have eo := len_encPs (prs m i ++ prow i k)
    have hx : ∃ k' ty es, IBlk.arr 2 59 (encPs (prs m i ++ prow i k)) = IBlk.arr k' ty es := ⟨_, _, _, rfl⟩
    have hst : prs m i ++ prow i (k + 1) = (prs m i ++ prow i k) ++ [((i : Int), ((i + 1 + k : Nat) : Int))] := by rw [prow_succ, List.append_assoc]
    have hle : (prs m i ++ prow i k).length ≤ 2000000 := by rw [List.length_append, prow_len]; omega
    have hfin : prs m (i + 1) = prs m i ++ prow i (m - (i + 1)) := rfl
    simp only [V_seq, V_region, V_cond, W_nil, W_cons, effOp2, KN_seq, asB, effOp, effPure, pureV, binV, strip, lkT, ISt.app, opI, gO, gB, allB, gval, wrapG, dstOK, setD, Op.operands, reduceIte, reduceCtorEq, Nat.reduceLT, Nat.reduceEqDiff, true_and, and_self, implies_true, List.nil_append, List.cons_append, hN]
    refine brW_some (fun h => ?_) (fun h => ?_)
    · have hk' : i + 1 + k < m := by simp at h; omega
      have hw2 : IntKind.i64.wrap (((i + 1 + k : Nat) : Int) + 1) = ((i + 1 + (k + 1) : Nat) : Int) := by rw [wr (by omega) (by omega)]; omega
      obtain ⟨out, hout⟩ : ∃ out, prs m i ++ prow i k = out := ⟨_, rfl⟩
      rw [hout] at eo hx hst hle ⊢
      simp only [V_seq, V_skip, V_block, V_region, W_nil, W_cons, effOp2, KN_seq, KN_block, KN_back, effOp, effPure, effNew, effBuildSlice, effFrz, frz, tmpsOf, effAppend, effZeros, skipE, pureV, srcV, refId, binV, over, solid, buildL, IV.cells, ofC, strip, lkT, lkH, ISt.app, opI, gO, gB, allB, gval, wrapG, dstOK, setD, mentTm, mentHp, IV.ment, IV.mentL, partsL, eltsI, eltI, oneI, noId', Op.operands, reduceIte, reduceCtorEq, cond_true, Bool.or_false, Bool.and_true, Nat.reduceAdd, Nat.reduceMul, Nat.reduceLT, Nat.reduceLeDiff, Nat.reduceEqDiff, Nat.reduceBEq, Nat.zero_add, ne_eq, not_false_eq_true, true_and, and_true, false_and, and_false, and_self, implies_true, List.map_cons, List.map_nil, List.nil_append, List.cons_append, List.append_nil, List.all_cons, List.all_nil, Option.some.injEq, List.getD_cons_zero, List.getD_cons_succ, List.length_cons, List.length_nil, List.take_succ_cons, List.take_zero, List.take_nil, List.drop_succ_cons, List.drop_zero, List.drop_nil, tab32, tab59, hN, hw2, eo]
      repeat refine And.intro (by first | omega | (simp; done) | (simp; omega)) ?_
      refine ⟨k + 1, fun x => if x = 6 then 23 else x, by simp only []; omega, by simp only []; omega, ?_⟩
      have hen : encPs (out ++ [((i : Int), ((i + 1 + k : Nat) : Int))]) = (encPs out).take out.length ++ [IV.agg [.num .i64 (i : Int), .num .i64 ((i + 1 + k : Nat) : Int)]] := by
        rw [← encPs_app, List.take_of_length_le (Nat.le_of_eq eo)]; rfl
      simp only [hst, hen, List.length_append]
      simp [SLe, SLe0, convTm, convHp, convB, conv, conv0, lkT, lkH, clean]
      exact ⟨(List.take_of_length_le (by rw [List.length_append, List.length_take]; exact Nat.le_refl _)).symm, fun id a1 a2 a3 => by omega⟩
    · have hke : k = m - (i + 1) := by simp at h; omega
      subst hke
      rw [← hfin]
      simp only [V_seq, V_ret, V_exit, V_region, W_nil, W_cons, effOp2, KN_seq, KN_block, KN_back, KXr_nil, KXe_nil, KXe_seq, KXe_block, KXe_back, QE, effOp, effPure, pureV, binV, ofC, strip, lkT, lkH, ISt.app, opI, gO, gB, allB, gval, wrapG, dstOK, setD, Gives, Ideal.Fin, conv, conv0, Op.operands, reduceIte, reduceCtorEq, Nat.reduceLT, Nat.reduceEqDiff, Nat.zero_add, ne_eq, true_and, and_self, implies_true, List.nil_append, List.cons_append, Option.some.injEq, List.drop_zero, hN, hw]
      exact ⟨i + 1, id, by simp only []; omega, by simp only []; omega, by simp [SLe, SLe0, convTm, convHp, convB, conv, conv0, lkT, lkH, clean]⟩
  · have hie : i = m := by simp at h; omega
    subst hie
    have eo := len_encPs (prs i i)
    simp only [V_seq, V_ret, V_exit, V_region, W_nil, W_cons, effOp2, KN_seq, KXr_nil, KXe_nil, KXe_seq, KXe_block, KXe_back, QE, effOp, effPure, pureV, strip, lkT, lkH, ISt.app, opI, gO, gB, allB, gval, wrapG, dstOK, setD, Gives, Ideal.Fin, conv, conv0, Op.operands, reduceIte, reduceCtorEq, Nat.reduceLT, Nat.reduceEqDiff, Nat.zero_add, ne_eq, true_and, and_self, implies_true, List.nil_append, List.cons_append, Option.some.injEq, List.drop_zero, hN]
    exact ⟨_, _, rfl, by omega, (List.take_of_length_le (by omega)).symm, by simp⟩
def sp_impl_pairs : PSpec := ⟨fun xs => match xs with | [.num .i64 n] => ((fun (n : Int) => 0 ≤ n) n) ∧ ((fun (n : Int) => n ≤ 1000) n) | _ => False, fun xs => match xs with | [.num _ n] => (fun (n : Int) => .sl 2 (encPs (prs n.toNat n.toNat))) n | _ => .junk, false⟩
theorem gk_impl_pairs : ∀ args, sp_impl_pairs.pre args → ICall Try.prog 40 args (sp_impl_pairs.val args) := by
  intro args h
  unfold sp_impl_pairs at h ⊢; simp only at h ⊢; split at h
  · obtain ⟨h0, h1⟩ := h
    simp only [toPs_enc] at *
    exact c_impl_pairs _ h0 h1
  · exact h.elim
theorem en_impl_pairs : Enters Try.prog 40 := enters_of Try.func40 (by kernel_rfl) rfl


end Go.Proofs.Ytlcndghaendieaa
