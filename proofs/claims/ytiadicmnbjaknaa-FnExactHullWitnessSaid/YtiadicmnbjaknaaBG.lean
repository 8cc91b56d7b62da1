/- Contracts: signs, absolute values, the greatest common divisor. -/
import Derived.Test.YtiadicmnbjaknaaB2
import Derived.Test.YtiadicmnbjaknaaPl11
set_option linter.unusedVariables false
set_option linter.unusedSimpArgs false
set_option maxHeartbeats 1600000
set_option maxRecDepth 100000
namespace Go.Proofs.Ytiadicmnbjaknaa
open Go Go.Ideal Go.Pl

theorem cmp_sgn (x : Int) : cmpI x 0 = sgnI x := rfl
def g_impl_sign : List (Nat × PSpec) := [(59, sp_cmp_Compare_int)]
theorem gok_impl_sign : GOK Try.prog g_impl_sign := gok_cons gk_cmp_Compare_int en_cmp_Compare_int (gok0)
theorem lk_impl_sign_cmp_Compare_int : lkG g_impl_sign 59 = sp_cmp_Compare_int := rfl
def h_impl_sign : List (Nat × HSpec) := []
theorem hok_impl_sign : HOK Try.prog h_impl_sign := hok0
theorem c_impl_sign (n : Int)  : ICall Try.prog 50 [.num .i64 n] (.num .i64 (sgnI n)) := by
  refine icall_V (G := g_impl_sign) (H := []) [] tabOK mixed gok_impl_sign hok_impl_sign Try.func50 rfl Try.ntmps50 Try.results50 rfl (by kernel_rfl) fun F hN hlen => ?_
  simp only [V_seq, V_ret, V_region, W_nil, W_cons, effOp2, KN_seq, KXr_nil, QE, effOp, effPure, effCall, giveUp, hasAll, pureV, ofC, strip, lkT, lkH, ISt.app, opI, gO, gB, allB, gval, wrapG, dstOK, setD, lendV, lendP, lent, lentP, idsV, idsL, lkHS, flat, clean, callArgs, callFn, allLent, enumT, Gives, Ideal.Fin, conv, conv0, Op.operands, reduceIte, reduceCtorEq, cond_true, Bool.or_false, Bool.not_true, Nat.reduceLT, Nat.reduceEqDiff, and_self, implies_true, List.map_cons, List.map_nil, List.nil_append, List.cons_append, List.append_nil, ex_clo, or_self, hN, lk_impl_sign_cmp_Compare_int, sp_cmp_Compare_int, cmp_sgn]
def sp_impl_sign : PSpec := ⟨fun xs => match xs with | [.num .i64 n] => True | _ => False, fun xs => match xs with | [.num _ n] => (fun (n : Int) => .num .i64 (sgnI n)) n | _ => .junk, false⟩
theorem gk_impl_sign : ∀ args, sp_impl_sign.pre args → ICall Try.prog 50 args (sp_impl_sign.val args) := by
  intro args h
  unfold sp_impl_sign at h ⊢; simp only at h ⊢; split at h
  · exact c_impl_sign _
  · exact h.elim
theorem en_impl_sign : Enters Try.prog 50 := enters_of Try.func50 (by kernel_rfl) rfl

def g_spec_sign : List (Nat × PSpec) := []
theorem gok_spec_sign : GOK Try.prog g_spec_sign := gok0
def h_spec_sign : List (Nat × HSpec) := []
theorem hok_spec_sign : HOK Try.prog h_spec_sign := hok0
theorem c_spec_sign (n : Int)  : ICall Try.prog 39 [.num .i64 n] (.num .i64 (sgnI n)) := by
  refine icall_V (G := g_spec_sign) (H := []) [] tabOK mixed gok_spec_sign hok_spec_sign Try.func39 rfl Try.ntmps39 Try.results39 rfl (by kernel_rfl) fun F hN hlen => ?_
  simp only [V_seq, V_block, V_region, V_cond, W_nil, W_cons, effOp2, KN_seq, asB, effOp, effPure, pureV, binV, ofC, strip, lkT, ISt.app, opI, gO, gB, allB, gval, wrapG, dstOK, setD, enumT, Op.operands, reduceIte, reduceCtorEq, Nat.reduceLT, Nat.reduceEqDiff, true_and, and_self, implies_true, List.nil_append, List.cons_append, List.append_nil, hN]
  refine brW_some (fun h => ?_) (fun h => ?_)
  · have h1 : n < 0 := by simpa using h
    simp only [V_seq, V_ret, V_region, W_nil, W_cons, effOp2, KN_seq, KXr_nil, KXr_seq, KXr_block, QE, effOp, effPure, pureV, ofC, strip, lkT, lkH, ISt.app, opI, gO, gB, allB, gval, wrapG, dstOK, setD, clean, Gives, Ideal.Fin, conv, conv0, Op.operands, reduceIte, reduceCtorEq, Nat.reduceLT, Nat.reduceEqDiff, true_and, and_true, and_self, implies_true, List.nil_append, List.cons_append, List.append_nil, hN]
    simp [sgnI, h1]
  · have h1 : ¬ n < 0 := by simpa using h
    simp only [V_seq, V_region, V_cond, W_nil, W_cons, effOp2, KN_seq, asB, effOp, effPure, pureV, binV, ofC, strip, lkT, ISt.app, opI, gO, gB, allB, gval, wrapG, dstOK, setD, Op.operands, reduceIte, reduceCtorEq, Nat.reduceLT, Nat.reduceEqDiff, true_and, and_self, implies_true, List.nil_append, List.cons_append, List.append_nil, hN]
    refine brW_some (fun h => ?_) (fun h => ?_)
    · have h2 : 0 < n := by simpa using h
      simp only [V_seq, V_ret, V_region, W_nil, W_cons, effOp2, KN_seq, KXr_nil, KXr_seq, KXr_block, QE, effOp, effPure, pureV, ofC, strip, lkT, lkH, ISt.app, opI, gO, gB, allB, gval, wrapG, dstOK, setD, clean, Gives, Ideal.Fin, conv, conv0, Op.operands, reduceIte, reduceCtorEq, Nat.reduceLT, Nat.reduceEqDiff, true_and, and_true, and_self, implies_true, List.nil_append, List.cons_append, List.append_nil, hN]
      simp [sgnI, h1, h2]
    · have h2 : ¬ 0 < n := by simpa using h
      simp only [V_seq, V_skip, V_ret, V_region, W_nil, W_cons, effOp2, KN_seq, KN_block, KXr_nil, QE, effOp, effPure, pureV, ofC, strip, lkT, lkH, ISt.app, opI, gO, gB, allB, gval, wrapG, dstOK, setD, clean, Gives, Ideal.Fin, conv, conv0, Op.operands, reduceIte, reduceCtorEq, Nat.reduceLT, Nat.reduceEqDiff, true_and, and_true, and_self, implies_true, List.nil_append, List.cons_append, List.append_nil, hN]
      simp [sgnI, h1, h2]
def sp_spec_sign : PSpec := ⟨fun xs => match xs with | [.num .i64 n] => True | _ => False, fun xs => match xs with | [.num _ n] => (fun (n : Int) => .num .i64 (sgnI n)) n | _ => .junk, false⟩
theorem gk_spec_sign : ∀ args, sp_spec_sign.pre args → ICall Try.prog 39 args (sp_spec_sign.val args) := by
  intro args h
  unfold sp_spec_sign at h ⊢; simp only at h ⊢; split at h
  · exact c_spec_sign _
  · exact h.elim
theorem en_spec_sign : Enters Try.prog 39 := enters_of Try.func39 (by kernel_rfl) rfl

theorem sgn_bd (x : Int) : -1 ≤ sgnI x ∧ sgnI x ≤ 1 := by unfold sgnI; split <;> (try split) <;> omega

/-- The absolute value. -/
def absI (n : Int) : Int := if n < 0 then -n else n
theorem max_abs (n : Int) : max n (-n) = absI n := by unfold absI; split <;> omega
theorem abs_gcd (a b : Int) : Int.gcd (absI a) (absI b) = Int.gcd a b := gcd_abs a b

theorem gcd_bd {a b A : Int} (ha : -A ≤ a ∧ a ≤ A) (hb : -A ≤ b ∧ b ≤ A) : 0 ≤ (Int.gcd a b : Int) ∧ (Int.gcd a b : Int) ≤ A := by
  refine ⟨by omega, ?_⟩
  rcases Int.lt_trichotomy a 0 with h | h | h
  · have := Nat.gcd_le_left b.natAbs (show 0 < a.natAbs by omega)
    rw [Int.gcd]; omega
  · subst h
    rw [Int.gcd_zero_left]; omega
  · have := Nat.gcd_le_left b.natAbs (show 0 < a.natAbs by omega)
    rw [Int.gcd]; omega
end Go.Proofs.Ytiadicmnbjaknaa
