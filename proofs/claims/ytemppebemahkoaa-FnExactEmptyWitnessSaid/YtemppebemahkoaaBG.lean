/- Contracts: signs, absolute values, the greatest common divisor. -/
import Derived.Test.YtemppebemahkoaaB2
import Derived.Test.YtemppebemahkoaaPl8
import Derived.Test.YtemppebemahkoaaPl6
set_option linter.unusedVariables false
set_option linter.unusedSimpArgs false
set_option maxHeartbeats 1600000
set_option maxRecDepth 100000
namespace Go.Proofs.Ytemppebemahkoaa
open Go Go.Ideal Go.Pl

theorem cmp_sgn (x : Int) : cmpI x 0 = sgnI x := rfl
def g_impl_sign : List (Nat × PSpec) := [(73, sp_cmp_Compare_int)]
theorem gok_impl_sign : GOK Try.prog g_impl_sign := gok_cons gk_cmp_Compare_int en_cmp_Compare_int (gok0)
theorem lk_impl_sign_cmp_Compare_int : lkG g_impl_sign 73 = sp_cmp_Compare_int := rfl
def h_impl_sign : List (Nat × HSpec) := []
theorem hok_impl_sign : HOK Try.prog h_impl_sign := hok0
theorem c_impl_sign (n : Int)  : ICall Try.prog 194 [.num .i64 n] (.num .i64 (sgnI n)) := by
  refine icall_V (G := g_impl_sign) (H := []) [] tabOK mixed gok_impl_sign hok_impl_sign Try.func194 rfl Try.ntmps194 Try.results194 rfl (by kernel_rfl) fun F hN hlen => ?_
  simp only [V_seq, V_ret, V_region, W_nil, W_cons, effOp2, KN_seq, KXr_nil, QE, effOp, effPure, effCall, giveUp, hasAll, pureV, ofC, strip, lkT, lkH, ISt.app, opI, gO, gB, allB, gval, wrapG, dstOK, setD, lendV, lendP, lent, lentP, idsV, idsL, lkHS, flat, clean, callArgs, callFn, allLent, enumT, Gives, Ideal.Fin, conv, conv0, Op.operands, reduceIte, reduceCtorEq, cond_true, Bool.or_false, Bool.not_true, Nat.reduceLT, Nat.reduceEqDiff, and_self, implies_true, List.map_cons, List.map_nil, List.nil_append, List.cons_append, List.append_nil, ex_clo, or_self, hN, lk_impl_sign_cmp_Compare_int, sp_cmp_Compare_int, cmp_sgn]
def sp_impl_sign : PSpec := ⟨fun xs => match xs with | [.num .i64 n] => True | _ => False, fun xs => match xs with | [.num _ n] => (fun (n : Int) => .num .i64 (sgnI n)) n | _ => .junk, false⟩
theorem gk_impl_sign : ∀ args, sp_impl_sign.pre args → ICall Try.prog 194 args (sp_impl_sign.val args) := by
  intro args h
  unfold sp_impl_sign at h ⊢; simp only at h ⊢; split at h
  · exact c_impl_sign _
  · exact h.elim
theorem en_impl_sign : Enters Try.prog 194 := enters_of Try.func194 (by kernel_rfl) rfl

def g_spec_sign : List (Nat × PSpec) := []
theorem gok_spec_sign : GOK Try.prog g_spec_sign := gok0
def h_spec_sign : List (Nat × HSpec) := []
theorem hok_spec_sign : HOK Try.prog h_spec_sign := hok0
theorem c_spec_sign (n : Int)  : ICall Try.prog 198 [.num .i64 n] (.num .i64 (sgnI n)) := by
  refine icall_V (G := g_spec_sign) (H := []) [] tabOK mixed gok_spec_sign hok_spec_sign Try.func198 rfl Try.ntmps198 Try.results198 rfl (by kernel_rfl) fun F hN hlen => ?_
  simp only [V_seq, V_block, V_region, V_cond, W_nil, W_cons, effOp2, KN_seq, asB, effOp, effPure, pureV, binV, ofC, strip, lkT, ISt.app, opI, gO, gB, allB, gval, wrapG, dstOK, setD, enumT, Op.operands, reduceIte, reduceCtorEq, Nat.reduceLT, Nat.reduceEqDiff, true_and, and_self, implies_true, List.nil_append, List.cons_append, List.append_nil, hN]
  refine brW_some (fun h => ?_) (fun h => ?_)
  · have h1 : n < 0 := by simpa using h
    simp only [V_seq, V_ret, V_region, W_nil, W_cons, effOp2, KN_seq, KXr_nil, KXr_seq, KXr_block, QE, effOp, effPure, pureV, ofC, strip, lkT, lkH, ISt.app, opI, gO, gB, allB, gval, wrapG, dstOK, setD, clean, Gives, Ideal.Fin, conv, conv0, Op.operands, reduceIte, reduceCtorEq, Nat.reduceLT, Nat.reduceEqDiff, true_and, and_true, and_self, implies_true, List.nil_append, List.cons_append, List.append_nil, hN]
    simp [sgnI, h1]
  · have h1 : ¬ n < 0 := by simpa using h
    simp only [V_seq, V_region, V_cond, W_nil, W_cons, effOp2, KN_seq, asB, effOp, effPure, pureV, binV, ofC, strip, lkT, ISt.app, opI, gO, gB, allB, gval, wrapG, dstOK, setD, Op.operands, reduceIte, reduceCtorEq, Nat.reduceLT, Nat.reduceEqDiff, true_and, and_self, implies_true, List.nil_append, List.cons_append, List.append_nil, hN]
    refine brW_some (fun h => ?_) (fun h => ?_)
    · have h2 : 0 < n := by simpa using h
      simp only [V_seq, V_ret, V_region, W_nil, W_cons, effOp2, KN_seq, KXr_nil, KXr_seq, KXr_block, QE, effOp, effPure, pureV, ofC, strip, lkT, lkH, ISt.app, opI, gO, gB, allB, gval, wrapG, dstOK, setD, clean, Gives, Ideal.Fin, conv, conv0, Op.operands, reduceIte, reduceCtorEq, Nat.reduceLT, Nat.reduceEqDiff, true_and, and_true, and_self, implies_true, List.nil_append, List.cons_append, List.append_nil, hN]
      simp [sgnI, h1, h2]
    · have h2 : ¬ 0 < n := by simpa using h
      simp only [V_seq, V_skip, V_ret, V_region, W_nil, W_cons, effOp2, KN_seq, KN_block, KXr_nil, QE, effOp, effPure, pureV, ofC, strip, lkT, lkH, ISt.app, opI, gO, gB, allB, gval, wrapG, dstOK, setD, clean, Gives, Ideal.Fin, conv, conv0, Op.operands, reduceIte, reduceCtorEq, Nat.reduceLT, Nat.reduceEqDiff, true_and, and_true, and_self, implies_true, List.nil_append, List.cons_append, List.append_nil, hN]
      simp [sgnI, h1, h2]
def sp_spec_sign : PSpec := ⟨fun xs => match xs with | [.num .i64 n] => True | _ => False, fun xs => match xs with | [.num _ n] => (fun (n : Int) => .num .i64 (sgnI n)) n | _ => .junk, false⟩
theorem gk_spec_sign : ∀ args, sp_spec_sign.pre args → ICall Try.prog 198 args (sp_spec_sign.val args) := by
  intro args h
  unfold sp_spec_sign at h ⊢; simp only at h ⊢; split at h
  · exact c_spec_sign _
  · exact h.elim
theorem en_spec_sign : Enters Try.prog 198 := enters_of Try.func198 (by kernel_rfl) rfl

theorem sgn_bd (x : Int) : -1 ≤ sgnI x ∧ sgnI x ≤ 1 := by unfold sgnI; split <;> (try split) <;> omega

/-- The absolute value. -/
def absI (n : Int) : Int := if n < 0 then -n else n
theorem max_abs (n : Int) : max n (-n) = absI n := by unfold absI; split <;> omega
def g_impl_abs : List (Nat × PSpec) := []
theorem gok_impl_abs : GOK Try.prog g_impl_abs := gok0
def h_impl_abs : List (Nat × HSpec) := []
theorem hok_impl_abs : HOK Try.prog h_impl_abs := hok0
theorem c_impl_abs (n : Int) (hn : -9223372036854775807 ≤ n ∧ n ≤ 9223372036854775807) : ICall Try.prog 223 [.num .i64 n] (.num .i64 (absI n)) := by
  refine icall_V (G := g_impl_abs) (H := []) [] tabOK mixed gok_impl_abs hok_impl_abs Try.func223 rfl Try.ntmps223 Try.results223 rfl (by kernel_rfl) fun F hN hlen => ?_
  have w1 : IntKind.i64.wrap (-n) = -n := wr (by omega) (by omega)
  simp only [V_seq, V_ret, V_region, W_nil, W_cons, effOp2, KN_seq, KXr_nil, QE, effOp, effPure, pureV, ofC, strip, lkT, lkH, ISt.app, opI, gO, gB, allB, gval, wrapG, dstOK, setD, clean, enumT, Gives, Ideal.Fin, conv, conv0, Op.operands, Call.operands, List.append_toArray, reduceIte, reduceCtorEq, Nat.reduceLT, Nat.reduceEqDiff, and_self, implies_true, List.nil_append, List.cons_append, List.append_nil, hN, w1, max_abs]
def sp_impl_abs : PSpec := ⟨fun xs => match xs with | [.num .i64 n] => ((fun (n : Int) => -9223372036854775807 ≤ n ∧ n ≤ 9223372036854775807) n) | _ => False, fun xs => match xs with | [.num _ n] => (fun (n : Int) => .num .i64 (absI n)) n | _ => .junk, false⟩
theorem gk_impl_abs : ∀ args, sp_impl_abs.pre args → ICall Try.prog 223 args (sp_impl_abs.val args) := by
  intro args h
  unfold sp_impl_abs at h ⊢; simp only at h ⊢; split at h
  · have h0 := h
    simp only [toPs_enc] at *
    exact c_impl_abs _ h0
  · exact h.elim
theorem en_impl_abs : Enters Try.prog 223 := enters_of Try.func223 (by kernel_rfl) rfl

def g_spec_abs : List (Nat × PSpec) := []
theorem gok_spec_abs : GOK Try.prog g_spec_abs := gok0
def h_spec_abs : List (Nat × HSpec) := []
theorem hok_spec_abs : HOK Try.prog h_spec_abs := hok0
theorem c_spec_abs (n : Int) (hn : -9223372036854775807 ≤ n ∧ n ≤ 9223372036854775807) : ICall Try.prog 158 [.num .i64 n] (.num .i64 (absI n)) := by
  refine icall_V (G := g_spec_abs) (H := []) [] tabOK mixed gok_spec_abs hok_spec_abs Try.func158 rfl Try.ntmps158 Try.results158 rfl (by kernel_rfl) fun F hN hlen => ?_
  have w1 : IntKind.i64.wrap (-n) = -n := wr (by omega) (by omega)
  simp only [V_seq, V_region, V_cond, W_nil, W_cons, effOp2, KN_seq, asB, effOp, effPure, pureV, binV, ofC, strip, lkT, ISt.app, opI, gO, gB, allB, gval, wrapG, dstOK, setD, enumT, Op.operands, reduceIte, reduceCtorEq, Nat.reduceLT, Nat.reduceEqDiff, true_and, and_self, implies_true, List.nil_append, List.cons_append, List.append_nil, hN]
  refine brW_some (fun h => ?_) (fun h => ?_)
  · have h1 : absI n = -n := if_pos (by simpa using h)
    simp only [V_seq, V_ret, V_region, W_nil, W_cons, effOp2, KN_seq, KXr_nil, KXr_seq, QE, effOp, effPure, pureV, strip, lkT, lkH, ISt.app, opI, gO, gB, allB, gval, wrapG, dstOK, setD, clean, Gives, Ideal.Fin, conv, conv0, Op.operands, reduceIte, reduceCtorEq, Nat.reduceLT, Nat.reduceEqDiff, and_self, implies_true, List.nil_append, List.cons_append, List.append_nil, hN, w1, h1]
  · have h1 : absI n = n := if_neg (by simpa using h)
    simp only [V_seq, V_skip, V_ret, V_region, W_nil, W_cons, effOp2, KN_seq, KXr_nil, QE, effOp, effPure, pureV, strip, lkT, lkH, ISt.app, opI, gO, gB, allB, gval, wrapG, dstOK, setD, clean, Gives, Ideal.Fin, conv, conv0, Op.operands, reduceIte, reduceCtorEq, Nat.reduceLT, Nat.reduceEqDiff, and_self, implies_true, List.nil_append, List.cons_append, List.append_nil, hN, h1]
def sp_spec_abs : PSpec := ⟨fun xs => match xs with | [.num .i64 n] => ((fun (n : Int) => -9223372036854775807 ≤ n ∧ n ≤ 9223372036854775807) n) | _ => False, fun xs => match xs with | [.num _ n] => (fun (n : Int) => .num .i64 (absI n)) n | _ => .junk, false⟩
theorem gk_spec_abs : ∀ args, sp_spec_abs.pre args → ICall Try.prog 158 args (sp_spec_abs.val args) := by
  intro args h
  unfold sp_spec_abs at h ⊢; simp only at h ⊢; split at h
  · have h0 := h
    simp only [toPs_enc] at *
    exact c_spec_abs _ h0
  · exact h.elim
theorem en_spec_abs : Enters Try.prog 158 := enters_of Try.func158 (by kernel_rfl) rfl

theorem abs_gcd (a b : Int) : Int.gcd (absI a) (absI b) = Int.gcd a b := gcd_abs a b
def g_impl_divisor : List (Nat × PSpec) := [(223, sp_impl_abs)]
theorem gok_impl_divisor : GOK Try.prog g_impl_divisor := gok_cons gk_impl_abs en_impl_abs (gok0)
theorem lk_impl_divisor_impl_abs : lkG g_impl_divisor 223 = sp_impl_abs := rfl
def h_impl_divisor : List (Nat × HSpec) := []
theorem hok_impl_divisor : HOK Try.prog h_impl_divisor := hok0
theorem c_impl_divisor (a : Int) (b : Int) (ha : -9223372036854775807 ≤ a ∧ a ≤ 9223372036854775807) (hb : -9223372036854775807 ≤ b ∧ b ≤ 9223372036854775807) : ICall Try.prog 182 [.num .i64 a, .num .i64 b] (.num .i64 (Int.gcd a b)) := by
  refine icall_V (G := g_impl_divisor) (H := []) [] tabOK mixed gok_impl_divisor hok_impl_divisor Try.func182 rfl Try.ntmps182 Try.results182 rfl (by kernel_rfl) fun F hN hlen => ?_
  simp only [V_seq, V_block, V_region, W_nil, W_cons, effOp2, KN_seq, effOp, effPure, pureV, ofC, strip, ISt.app, opI, gO, gB, allB, gval, wrapG, dstOK, setD, enumT, Op.operands, Nat.reduceLT, Nat.zero_add, true_and, and_self, implies_true, List.nil_append, List.cons_append, List.append_nil, hN]
  refine V_loop (α := Int × Int) ⟨tabOK, mixed, gok_impl_divisor, hok_impl_divisor⟩ (by kernel_rfl) (fun x => Int.gcd x.1 x.2 = Int.gcd a b ∧ (-9223372036854775807 ≤ x.1 ∧ x.1 ≤ 9223372036854775807) ∧ (-9223372036854775807 ≤ x.2 ∧ x.2 ≤ 9223372036854775807)) (fun x => ⟨[(0, .num .i64 x.1), (1, .num .i64 x.2)], []⟩) (fun x => x.2.natAbs) (a, b) id ⟨rfl, ha, hb⟩ (by simp [SLe, SLe0, convTm, convHp, conv, conv0, lkT, lkH, clean]) ?_
  rintro ⟨x, y⟩ ⟨h1, h2, h3⟩
  simp only [] at h1 h2 h3
  simp only [V_seq, V_region, V_cond, W_nil, W_cons, effOp2, KN_seq, asB, effOp, effPure, pureV, binV, ofC, strip, lkT, ISt.app, opI, gO, gB, allB, gval, wrapG, dstOK, setD, Op.operands, reduceIte, reduceCtorEq, Nat.reduceLT, Nat.reduceEqDiff, true_and, and_self, implies_true, List.nil_append, List.cons_append, List.append_nil, hN]
  refine brW_some (fun h => ?_) (fun h => ?_)
  · have hy : y ≠ 0 := by simpa using h
    have hlt := tmod_lt (a := x) hy
    have d1 : (y == 0) = false := by simpa using hy
    simp only [V_skip, V_block, V_draw, drawW, pairsOf, WD_nil, WD_cons, effOp3, KN_seq, KN_block, KN_back, effOp, effPure, pureV, binV, strip, lkT, ISt.app, opI, gO, gB, allB, gval, wrapG, dstOK, setD, Op.operands, reduceIte, reduceCtorEq, Nat.reduceLT, Nat.reduceEqDiff, ne_eq, true_and, and_self, implies_true, forall_const, List.nil_append, List.cons_append, List.append_nil, hN]
    exact ⟨hy, (y, x.tmod y), id, ⟨(gcd_tmod x y).trans h1, h3, by simp only []; omega⟩, hlt, by simp [SLe, SLe0, convTm, convHp, conv, conv0, lkT, lkH, clean]⟩
  · have hy : y = 0 := by simpa using h
    subst hy
    have hg : absI x = (Int.gcd a b : Int) := by rw [← h1, gcd_zero]; rfl
    simp only [V_seq, V_ret, V_exit, V_region, W_nil, W_cons, effOp2, KN_seq, KXr_nil, KXe_nil, KXe_seq, KXe_block, KXe_back, QE, effOp, effPure, effCall, giveUp, hasAll, pureV, strip, lkT, lkH, ISt.app, opI, gO, gB, allB, gval, wrapG, dstOK, setD, lendV, lendP, lent, lentP, idsV, idsL, lkHS, flat, clean, callArgs, callFn, allLent, Gives, Ideal.Fin, conv, conv0, Op.operands, reduceIte, reduceCtorEq, cond_true, Bool.or_false, Bool.not_true, Nat.reduceLT, Nat.reduceEqDiff, and_self, implies_true, List.map_cons, List.map_nil, List.nil_append, List.cons_append, List.append_nil, ex_clo, or_self, hN, lk_impl_divisor_impl_abs, sp_impl_abs, h2, hg]
def sp_impl_divisor : PSpec := ⟨fun xs => match xs with | [.num .i64 a, .num .i64 b] => ((fun (a : Int) (b : Int) => -9223372036854775807 ≤ a ∧ a ≤ 9223372036854775807) a b) ∧ ((fun (a : Int) (b : Int) => -9223372036854775807 ≤ b ∧ b ≤ 9223372036854775807) a b) | _ => False, fun xs => match xs with | [.num _ a, .num _ b] => (fun (a : Int) (b : Int) => .num .i64 (Int.gcd a b)) a b | _ => .junk, false⟩
theorem gk_impl_divisor : ∀ args, sp_impl_divisor.pre args → ICall Try.prog 182 args (sp_impl_divisor.val args) := by
  intro args h
  unfold sp_impl_divisor at h ⊢; simp only at h ⊢; split at h
  · obtain ⟨h0, h1⟩ := h
    simp only [toPs_enc] at *
    exact c_impl_divisor _ _ h0 h1
  · exact h.elim
theorem en_impl_divisor : Enters Try.prog 182 := enters_of Try.func182 (by kernel_rfl) rfl

def g_spec_gcd : List (Nat × PSpec) := []
theorem gok_spec_gcd : GOK Try.prog g_spec_gcd := gok0
def h_spec_gcd : List (Nat × HSpec) := []
theorem hok_spec_gcd : HOK Try.prog h_spec_gcd := hok0
theorem c_spec_gcd (a : Int) (b : Int) (ha : 0 ≤ a ∧ a ≤ 9223372036854775807) (hb : 0 ≤ b ∧ b ≤ 9223372036854775807) : ICall Try.prog 188 [.num .i64 a, .num .i64 b] (.num .i64 (Int.gcd a b)) := by
  refine icall_V (G := g_spec_gcd) (H := []) [] tabOK mixed gok_spec_gcd hok_spec_gcd Try.func188 rfl Try.ntmps188 Try.results188 rfl (by kernel_rfl) fun F hN hlen => ?_
  simp only [V_seq, V_block, V_region, W_nil, W_cons, effOp2, KN_seq, effOp, effPure, pureV, ofC, strip, ISt.app, opI, gO, gB, allB, gval, wrapG, dstOK, setD, enumT, Op.operands, Nat.reduceLT, Nat.zero_add, true_and, and_self, implies_true, List.nil_append, List.cons_append, List.append_nil, hN]
  refine V_loop (α := Int × Int) ⟨tabOK, mixed, gok_spec_gcd, hok_spec_gcd⟩ (by kernel_rfl) (fun x => Int.gcd x.1 x.2 = Int.gcd a b ∧ (0 ≤ x.1 ∧ x.1 ≤ 9223372036854775807) ∧ (0 ≤ x.2 ∧ x.2 ≤ 9223372036854775807)) (fun x => ⟨[(0, .num .i64 x.1), (1, .num .i64 x.2)], []⟩) (fun x => x.2.natAbs) (a, b) id ⟨rfl, ha, hb⟩ (by simp [SLe, SLe0, convTm, convHp, conv, conv0, lkT, lkH, clean]) ?_
  rintro ⟨x, y⟩ ⟨h1, h2, h3⟩
  simp only [] at h1 h2 h3
  simp only [V_seq, V_region, V_cond, W_nil, W_cons, effOp2, KN_seq, asB, effOp, effPure, pureV, binV, ofC, strip, lkT, ISt.app, opI, gO, gB, allB, gval, wrapG, dstOK, setD, Op.operands, reduceIte, reduceCtorEq, Nat.reduceLT, Nat.reduceEqDiff, true_and, and_self, implies_true, List.nil_append, List.cons_append, List.append_nil, hN]
  refine brW_some (fun h => ?_) (fun h => ?_)
  · have hy : 0 < y := by simpa using h
    have hlt := tmod_lt (a := x) (b := y) (by omega)
    have hnn := Int.tmod_nonneg y h2.1
    have d1 : (y == 0) = false := by simp; omega
    simp only [V_seq, V_skip, V_block, V_region, W_nil, W_cons, effOp2, KN_seq, KN_block, KN_back, effOp, effPure, pureV, binV, strip, lkT, ISt.app, opI, gO, gB, allB, gval, wrapG, dstOK, setD, Op.operands, reduceIte, reduceCtorEq, Nat.reduceLT, Nat.reduceEqDiff, ne_eq, true_and, and_self, implies_true, forall_const, List.nil_append, List.cons_append, List.append_nil, hN]
    exact ⟨by omega, (y, x.tmod y), id, ⟨(gcd_tmod x y).trans h1, h3, hnn, by simp only []; omega⟩, hlt, by simp [SLe, SLe0, convTm, convHp, conv, conv0, lkT, lkH, clean]⟩
  · have hy : y = 0 := by simp at h; omega
    subst hy
    have hg : x = (Int.gcd a b : Int) := by rw [← h1, gcd_zero, if_neg (by omega)]
    simp only [V_seq, V_ret, V_exit, V_region, W_nil, W_cons, effOp2, KN_seq, KXr_nil, KXe_nil, KXe_seq, KXe_block, KXe_back, QE, effOp, effPure, pureV, strip, lkT, lkH, ISt.app, opI, gO, gB, allB, gval, wrapG, dstOK, setD, clean, Gives, Ideal.Fin, conv, conv0, Op.operands, reduceIte, reduceCtorEq, Nat.reduceLT, Nat.reduceEqDiff, and_self, implies_true, List.nil_append, List.cons_append, List.append_nil, hN, ← hg]
def sp_spec_gcd : PSpec := ⟨fun xs => match xs with | [.num .i64 a, .num .i64 b] => ((fun (a : Int) (b : Int) => 0 ≤ a ∧ a ≤ 9223372036854775807) a b) ∧ ((fun (a : Int) (b : Int) => 0 ≤ b ∧ b ≤ 9223372036854775807) a b) | _ => False, fun xs => match xs with | [.num _ a, .num _ b] => (fun (a : Int) (b : Int) => .num .i64 (Int.gcd a b)) a b | _ => .junk, false⟩
theorem gk_spec_gcd : ∀ args, sp_spec_gcd.pre args → ICall Try.prog 188 args (sp_spec_gcd.val args) := by
  intro args h
  unfold sp_spec_gcd at h ⊢; simp only at h ⊢; split at h
  · obtain ⟨h0, h1⟩ := h
    simp only [toPs_enc] at *
    exact c_spec_gcd _ _ h0 h1
  · exact h.elim
theorem en_spec_gcd : Enters Try.prog 188 := enters_of Try.func188 (by kernel_rfl) rfl


theorem gcd_bd {a b A : Int} (ha : -A ≤ a ∧ a ≤ A) (hb : -A ≤ b ∧ b ≤ A) : 0 ≤ (Int.gcd a b : Int) ∧ (Int.gcd a b : Int) ≤ A := by
  refine ⟨by omega, ?_⟩
  rcases Int.lt_trichotomy a 0 with h | h | h
  · have := Nat.gcd_le_left b.natAbs (show 0 < a.natAbs by omega)
    rw [Int.gcd]; omega
  · subst h
    rw [Int.gcd_zero_left]; omega
  · have := Nat.gcd_le_left b.natAbs (show 0 < a.natAbs by omega)
    rw [Int.gcd]; omega
end Go.Proofs.Ytemppebemahkoaa
