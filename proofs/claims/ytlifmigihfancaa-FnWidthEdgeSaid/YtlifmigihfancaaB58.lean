/- Widths: contracts, FnExactWidthEdge, FnWidthEdge. -/
import Derived.Test.YtlifmigihfancaaB14
import Derived.Test.YtlifmigihfancaaB15
import Derived.Test.YtlifmigihfancaaPl28
import Derived.Test.YtlifmigihfancaaPl7
import Derived.Test.YtlifmigihfancaaLayM
import Derived.Shelf.Bits.Mul64
set_option linter.unusedVariables false
set_option linter.unusedSimpArgs false
set_option maxHeartbeats 3200000
set_option maxRecDepth 100000
namespace Go.Proofs.Ytlifmigihfancaa
open Go Go.Ideal Go.Pl Go.Sort

def mHi (x y : Int) : Int := x * y / 18446744073709551616
def mLo (x y : Int) : Int := x * y % 18446744073709551616
def g_math_bits_Mul64 : List (Nat × PSpec) := []
theorem gok_math_bits_Mul64 : GOK Try.prog g_math_bits_Mul64 := gok0
def h_math_bits_Mul64 : List (Nat × HSpec) := []
theorem hok_math_bits_Mul64 : HOK Try.prog h_math_bits_Mul64 := hok0
theorem c_math_bits_Mul64 (x : Int) (y : Int) (hx : 0 ≤ x ∧ x < 18446744073709551616) (hy : 0 ≤ y ∧ y < 18446744073709551616) : ICall Try.prog 178 [.num .u64 x, .num .u64 y] (.tup [.num .u64 (mHi x y), .num .u64 (mLo x y)]) := by
  intro A w vs hA hL
  simp only [RepL, RepV] at hL
  obtain ⟨v1, r1, rfl, rfl, v2, r2, rfl, rfl, rfl⟩ := hL
  obtain ⟨a, rfl⟩ : ∃ a : Nat, x = a := ⟨x.toNat, by omega⟩
  obtain ⟨b, rfl⟩ : ∃ b : Nat, y = b := ⟨y.toNat, by omega⟩
  refine (Any.bits_Mul64 Try.mul64 a b (by omega) (by omega) w).mono ?_
  rintro e w' ⟨rfl, rfl⟩
  have e1 : mHi (a : Int) (b : Int) = ((a * b / 18446744073709551616 : Nat) : Int) := by rw [mHi]; omega
  have e2 : mLo (a : Int) (b : Int) = ((a * b % 18446744073709551616 : Nat) : Int) := by rw [mLo]; omega
  rw [e1, e2]
  exact ⟨_, rfl, Chg.refl _ _, by simp only [RepV, RepL]; exact ⟨_, rfl, _, _, rfl, rfl, _, _, rfl, rfl, rfl⟩⟩
def sp_math_bits_Mul64 : PSpec := ⟨fun xs => match xs with | [.num .u64 x, .num .u64 y] => ((fun (x : Int) (y : Int) => 0 ≤ x ∧ x < 18446744073709551616) x y) ∧ ((fun (x : Int) (y : Int) => 0 ≤ y ∧ y < 18446744073709551616) x y) | _ => False, fun xs => match xs with | [.num _ x, .num _ y] => (fun (x : Int) (y : Int) => .tup [.num .u64 (mHi x y), .num .u64 (mLo x y)]) x y | _ => .junk, false⟩
theorem gk_math_bits_Mul64 : ∀ args, sp_math_bits_Mul64.pre args → ICall Try.prog 178 args (sp_math_bits_Mul64.val args) := by
  intro args h
  unfold sp_math_bits_Mul64 at h ⊢; simp only at h ⊢; split at h
  · obtain ⟨h0, h1⟩ := h
    simp only [toPs_enc] at *
    exact c_math_bits_Mul64 _ _ h0 h1
  · exact h.elim
theorem en_math_bits_Mul64 : Enters Try.prog 178 := enters_of Try.func178 (by kernel_rfl) rfl

def g_cmp_isNaN_uint64 : List (Nat × PSpec) := []
theorem gok_cmp_isNaN_uint64 : GOK Try.prog g_cmp_isNaN_uint64 := gok0
def h_cmp_isNaN_uint64 : List (Nat × HSpec) := []
theorem hok_cmp_isNaN_uint64 : HOK Try.prog h_cmp_isNaN_uint64 := hok0
theorem c_cmp_isNaN_uint64 (x : Int)  : ICall Try.prog 228 [.num .u64 x] (.bool false) := by
  refine icall_V (G := g_cmp_isNaN_uint64) (H := []) [] tabOK mixed gok_cmp_isNaN_uint64 hok_cmp_isNaN_uint64 Try.func228 rfl Try.ntmps228 Try.results228 rfl (by kernel_rfl) fun F hN hlen => ?_
  simp only [V_seq, V_ret, V_region, W_nil, W_cons, effOp2, KN_seq, KXr_nil, QE, effOp, effPure, pureV, binV, ofC, strip, lkT, lkH, ISt.app, opI, gO, gB, allB, gval, wrapG, dstOK, setD, clean, enumT, Gives, Ideal.Fin, conv, conv0, Op.operands, reduceIte, reduceCtorEq, Nat.reduceLT, Nat.reduceEqDiff, true_and, and_true, and_self, implies_true, List.nil_append, List.cons_append, List.append_nil, hN]
  simp
def sp_cmp_isNaN_uint64 : PSpec := ⟨fun xs => match xs with | [.num .u64 x] => True | _ => False, fun xs => match xs with | [.num _ x] => (fun (x : Int) => .bool false) x | _ => .junk, false⟩
theorem gk_cmp_isNaN_uint64 : ∀ args, sp_cmp_isNaN_uint64.pre args → ICall Try.prog 228 args (sp_cmp_isNaN_uint64.val args) := by
  intro args h
  unfold sp_cmp_isNaN_uint64 at h ⊢; simp only at h ⊢; split at h
  · exact c_cmp_isNaN_uint64 _
  · exact h.elim
theorem en_cmp_isNaN_uint64 : Enters Try.prog 228 := enters_of Try.func228 (by kernel_rfl) rfl

def g_cmp_Compare_uint64 : List (Nat × PSpec) := [(228, sp_cmp_isNaN_uint64)]
theorem gok_cmp_Compare_uint64 : GOK Try.prog g_cmp_Compare_uint64 := gok_cons gk_cmp_isNaN_uint64 en_cmp_isNaN_uint64 (gok0)
theorem lk_cmp_Compare_uint64_cmp_isNaN_uint64 : lkG g_cmp_Compare_uint64 228 = sp_cmp_isNaN_uint64 := rfl
def h_cmp_Compare_uint64 : List (Nat × HSpec) := []
theorem hok_cmp_Compare_uint64 : HOK Try.prog h_cmp_Compare_uint64 := hok0
theorem c_cmp_Compare_uint64 (a : Int) (b : Int)  : ICall Try.prog 179 [.num .u64 a, .num .u64 b] (.num .i64 (cmpI a b)) := by
  refine icall_V (G := g_cmp_Compare_uint64) (H := []) [] tabOK mixed gok_cmp_Compare_uint64 hok_cmp_Compare_uint64 Try.func179 rfl Try.ntmps179 Try.results179 rfl (by kernel_rfl) fun F hN hlen => ?_
  simp only [V_seq, V_skip, V_region, V_cond, brW_false, W_nil, W_cons, effOp2, KN_seq, asB, effOp, effPure, effCall, giveUp, hasAll, pureV, binV, ofC, strip, lkT, lkH, ISt.app, opI, gO, gB, allB, gval, wrapG, dstOK, setD, lendV, lendP, lent, lentP, idsV, idsL, lkHS, flat, clean, callArgs, callFn, allLent, enumT, Op.operands, reduceIte, reduceCtorEq, cond_true, Bool.or_false, Bool.not_true, Nat.reduceLT, Nat.reduceEqDiff, Nat.zero_add, true_and, and_self, implies_true, List.map_cons, List.map_nil, List.nil_append, List.cons_append, List.append_nil, ex_clo, or_self, hN, lk_cmp_Compare_uint64_cmp_isNaN_uint64, sp_cmp_isNaN_uint64]
  refine brW_some (fun h => ?_) (fun h => ?_)
  · simp only [V_seq, V_ret, V_region, W_nil, W_cons, effOp2, KN_seq, KXr_nil, KXr_seq, QE, effOp, effPure, pureV, ofC, strip, lkT, lkH, ISt.app, opI, gO, gB, allB, gval, wrapG, dstOK, setD, clean, Gives, Ideal.Fin, conv, conv0, Op.operands, reduceIte, reduceCtorEq, Nat.reduceLT, Nat.reduceEqDiff, true_and, and_true, and_self, implies_true, List.nil_append, List.cons_append, List.append_nil, hN]
    have : a < b := by simpa using h
    simp [cmpI, this]
  · simp only [V_seq, V_skip, V_region, V_cond, W_nil, W_cons, effOp2, KN_seq, asB, effOp, effPure, pureV, binV, strip, lkT, ISt.app, opI, gO, gB, allB, gval, wrapG, dstOK, setD, Op.operands, reduceIte, reduceCtorEq, Nat.reduceLT, Nat.reduceEqDiff, true_and, and_self, implies_true, List.nil_append, List.cons_append, List.append_nil, hN]
    have h1 : ¬ a < b := by simpa using h
    refine brW_some (fun h => ?_) (fun h => ?_)
    · simp only [V_seq, V_ret, V_region, W_nil, W_cons, effOp2, KN_seq, KXr_nil, KXr_seq, QE, effOp, effPure, pureV, ofC, strip, lkT, lkH, ISt.app, opI, gO, gB, allB, gval, wrapG, dstOK, setD, clean, Gives, Ideal.Fin, conv, conv0, Op.operands, reduceIte, reduceCtorEq, Nat.reduceLT, Nat.reduceEqDiff, true_and, and_true, and_self, implies_true, List.nil_append, List.cons_append, List.append_nil, hN]
      have : b < a := by simpa using h
      simp [cmpI, this, h1]
    · simp only [V_seq, V_skip, V_ret, V_region, W_nil, W_cons, effOp2, KN_seq, KXr_nil, QE, effOp, effPure, pureV, ofC, strip, lkT, lkH, ISt.app, opI, gO, gB, allB, gval, wrapG, dstOK, setD, clean, Gives, Ideal.Fin, conv, conv0, Op.operands, reduceIte, reduceCtorEq, Nat.reduceLT, Nat.reduceEqDiff, true_and, and_true, and_self, implies_true, List.nil_append, List.cons_append, List.append_nil, hN]
      have : ¬ b < a := by simpa using h
      simp [cmpI, this, h1]
def sp_cmp_Compare_uint64 : PSpec := ⟨fun xs => match xs with | [.num .u64 a, .num .u64 b] => True | _ => False, fun xs => match xs with | [.num _ a, .num _ b] => (fun (a : Int) (b : Int) => .num .i64 (cmpI a b)) a b | _ => .junk, false⟩
theorem gk_cmp_Compare_uint64 : ∀ args, sp_cmp_Compare_uint64.pre args → ICall Try.prog 179 args (sp_cmp_Compare_uint64.val args) := by
  intro args h
  unfold sp_cmp_Compare_uint64 at h ⊢; simp only at h ⊢; split at h
  · exact c_cmp_Compare_uint64 _ _
  · exact h.elim
theorem en_cmp_Compare_uint64 : Enters Try.prog 179 := enters_of Try.func179 (by kernel_rfl) rfl

def sqC (x y : Pt) : Int := orI [cmpI (mHi x.1 y.2) (mHi y.1 x.2), cmpI (mLo x.1 y.2) (mLo y.1 x.2)]
theorem cmpI_z {a b : Int} : cmpI a b = 0 ↔ a = b := by
  unfold cmpI
  constructor
  · intro h
    split at h
    · omega
    · split at h <;> omega
  · rintro rfl; rw [if_neg (by omega), if_neg (by omega)]
theorem cmpI_n (a b : Int) : cmpI a b < 0 ↔ a < b := by
  unfold cmpI
  split
  · omega
  · split <;> omega
theorem sqC_lt {x y : Pt} (h1 : 0 ≤ x.1) (h2 : 0 ≤ x.2) (h3 : 0 ≤ y.1) (h4 : 0 ≤ y.2) : decide (sqC x y < 0) = ltF x y := by
  obtain ⟨a, ha⟩ : ∃ a : Nat, x.1 * y.2 = a := ⟨(x.1 * y.2).toNat, by have := Int.mul_nonneg h1 h4; omega⟩
  obtain ⟨b, hb⟩ : ∃ b : Nat, y.1 * x.2 = b := ⟨(y.1 * x.2).toNat, by have := Int.mul_nonneg h3 h2; omega⟩
  have hh := half_lt (x := a) (y := b) (m := 18446744073709551616) (by decide)
  have z1 := cmpI_z (a := mHi x.1 y.2) (b := mHi y.1 x.2)
  have n1 := cmpI_n (mHi x.1 y.2) (mHi y.1 x.2)
  have z2 := cmpI_z (a := mLo x.1 y.2) (b := mLo y.1 x.2)
  have n2 := cmpI_n (mLo x.1 y.2) (mLo y.1 x.2)
  unfold sqC ltF
  refine decide_eq_decide.2 ?_
  rw [ha, hb]
  unfold mHi mLo at *
  rw [ha, hb] at *
  generalize cmpI ((a : Int) / 18446744073709551616) ((b : Int) / 18446744073709551616) = c1 at *
  generalize cmpI ((a : Int) % 18446744073709551616) ((b : Int) % 18446744073709551616) = c2 at *
  simp only [orI]
  split
  · split <;> omega
  · omega
def g_impl_square_compare : List (Nat × PSpec) := [(178, sp_math_bits_Mul64), (179, sp_cmp_Compare_uint64), (71, sp_cmp_Or_int)]
theorem gok_impl_square_compare : GOK Try.prog g_impl_square_compare := gok_cons gk_math_bits_Mul64 en_math_bits_Mul64 (gok_cons gk_cmp_Compare_uint64 en_cmp_Compare_uint64 (gok_cons gk_cmp_Or_int en_cmp_Or_int (gok0)))
theorem lk_impl_square_compare_math_bits_Mul64 : lkG g_impl_square_compare 178 = sp_math_bits_Mul64 := rfl
theorem lk_impl_square_compare_cmp_Compare_uint64 : lkG g_impl_square_compare 179 = sp_cmp_Compare_uint64 := rfl
theorem lk_impl_square_compare_cmp_Or_int : lkG g_impl_square_compare 71 = sp_cmp_Or_int := rfl
def h_impl_square_compare : List (Nat × HSpec) := []
theorem hok_impl_square_compare : HOK Try.prog h_impl_square_compare := hok0
theorem c_impl_square_compare (x : Pt) (y : Pt) (hx : (0 ≤ x.1 ∧ x.1 < 9223372036854775808) ∧ (0 ≤ x.2 ∧ x.2 < 9223372036854775808)) (hy : (0 ≤ y.1 ∧ y.1 < 9223372036854775808) ∧ (0 ≤ y.2 ∧ y.2 < 9223372036854775808)) : ICall Try.prog 116 [encP x, encP y] (.num .i64 (sqC x y)) := by
  refine icall_V (G := g_impl_square_compare) (H := []) [] tabOK mixed gok_impl_square_compare hok_impl_square_compare Try.func116 rfl Try.ntmps116 Try.results116 rfl (by kernel_rfl) fun F hN hlen => ?_
  have u : ∀ z : Int, 0 ≤ z → z < 9223372036854775808 → IntKind.u64.wrap z = z := fun z h1 h2 => by rw [IntKind.wrap_u64]; omega
  have u1 := u x.1 (by omega) (by omega)
  have u2 := u x.2 (by omega) (by omega)
  have u3 := u y.1 (by omega) (by omega)
  have u4 := u y.2 (by omega) (by omega)
  have hv : sqC x y = orI [cmpI (mHi x.1 y.2) (mHi y.1 x.2), cmpI (mLo x.1 y.2) (mLo y.1 x.2)] := rfl
  simp only [V_seq, V_ret, V_region, W_nil, W_cons, effOp2, KN_seq, KXr_nil, QE, effOp, effPure, effNew, effBox, effBuildSlice, effFrz, frz, tmpsOf, effCall, giveUp, hasAll, Option.isSome_some, skipE, pureV, partV, loadV, faddrV, solid, IV.cells, ofC, strip, lkT, lkH, ISt.app, opI, gO, gB, allB, gval, wrapG, dstOK, setD, mentTm, mentHp, IV.ment, IV.mentL, partsL, eltsI, eltI, oneI, noId', lendV, lendP, lent, lentP, idsV, idsL, lkHS, flat, flatL, clean, cleanL, callArgs, callFn, allLent, enumT, Gives, Ideal.Fin, conv, conv0, IBlk.shape, Op.operands, reduceIte, reduceCtorEq, cond_true, Bool.or_false, Bool.and_true, Bool.not_true, Nat.reduceAdd, Nat.reduceMul, Nat.reduceLT, Nat.reduceLeDiff, Nat.reduceEqDiff, Nat.reduceBEq, Nat.add_zero, Nat.zero_add, ne_eq, not_false_eq_true, true_and, and_true, and_self, implies_true, forall_const, List.map_cons, List.map_nil, List.nil_append, List.cons_append, List.append_nil, List.all_cons, List.all_nil, Option.map_some, List.getD_cons_zero, List.getD_cons_succ, List.length_cons, List.length_nil, List.take_succ_cons, List.take_zero, List.take_nil, List.drop_succ_cons, List.drop_zero, ex_clo, or_self, tab3, tab25, tab115, tab159, hN, encP, isIs_nil, toIs_nil, isIs_cons, toIs_cons, lk_impl_square_compare_math_bits_Mul64, lk_impl_square_compare_cmp_Compare_uint64, lk_impl_square_compare_cmp_Or_int, sp_math_bits_Mul64, sp_cmp_Compare_uint64, sp_cmp_Or_int, u1, u2, u3, u4, hv]
  repeat refine And.intro (by first | omega | (simp; done) | (simp; omega)) ?_
  omega
def sp_impl_square_compare : PSpec := ⟨fun xs => match xs with | [.agg [.num .i64 x1, .num .i64 x2], .agg [.num .i64 y1, .num .i64 y2]] => ((fun (x : Pt) (y : Pt) => (0 ≤ x.1 ∧ x.1 < 9223372036854775808) ∧ (0 ≤ x.2 ∧ x.2 < 9223372036854775808)) (x1, x2) (y1, y2)) ∧ ((fun (x : Pt) (y : Pt) => (0 ≤ y.1 ∧ y.1 < 9223372036854775808) ∧ (0 ≤ y.2 ∧ y.2 < 9223372036854775808)) (x1, x2) (y1, y2)) | _ => False, fun xs => match xs with | [.agg [.num _ x1, .num _ x2], .agg [.num _ y1, .num _ y2]] => (fun (x : Pt) (y : Pt) => .num .i64 (sqC x y)) (x1, x2) (y1, y2) | _ => .junk, false⟩
theorem gk_impl_square_compare : ∀ args, sp_impl_square_compare.pre args → ICall Try.prog 116 args (sp_impl_square_compare.val args) := by
  intro args h
  unfold sp_impl_square_compare at h ⊢; simp only at h ⊢; split at h
  · obtain ⟨h0, h1⟩ := h
    simp only [toPs_enc] at *
    exact c_impl_square_compare (_, _) (_, _) h0 h1
  · exact h.elim
theorem en_impl_square_compare : Enters Try.prog 116 := enters_of Try.func116 (by kernel_rfl) rfl

def g_spec_fractionLess : List (Nat × PSpec) := []
theorem gok_spec_fractionLess : GOK Try.prog g_spec_fractionLess := gok0
def h_spec_fractionLess : List (Nat × HSpec) := []
theorem hok_spec_fractionLess : HOK Try.prog h_spec_fractionLess := hok0
theorem c_spec_fractionLess (a : Int) (b : Int) (c : Int) (d : Int) (ha : 0 ≤ a ∧ a ≤ 1000000000000000) (hb : 0 < b ∧ b ≤ 1000000000000000) (hc : 0 ≤ c ∧ c ≤ 1000000000000000) (hd : 0 < d ∧ d ≤ 1000000000000000) : ICall Try.prog 113 [.num .i64 a, .num .i64 b, .num .i64 c, .num .i64 d] (.bool (ltF (a, b) (c, d))) := by
  refine icall_V (G := g_spec_fractionLess) (H := []) [] tabOK mixed gok_spec_fractionLess hok_spec_fractionLess Try.func113 rfl Try.ntmps113 Try.results113 rfl (by kernel_rfl) fun F hN hlen => ?_
  simp only [V_seq, V_block, V_region, W_nil, W_cons, effOp2, KN_seq, effOp, effPure, pureV, ofC, strip, ISt.app, opI, gO, gB, allB, gval, wrapG, dstOK, setD, enumT, Op.operands, Nat.reduceAdd, Nat.reduceLT, Nat.zero_add, true_and, and_self, implies_true, List.nil_append, List.cons_append, List.append_nil, hN]
  refine V_loop (α := (Int × Int) × (Int × Int)) ⟨tabOK, mixed, gok_spec_fractionLess, hok_spec_fractionLess⟩ (by kernel_rfl) (fun z => ((0 ≤ z.1.1 ∧ z.1.1 ≤ 1000000000000000) ∧ (0 < z.1.2 ∧ z.1.2 ≤ 1000000000000000)) ∧ ((0 ≤ z.2.1 ∧ z.2.1 ≤ 1000000000000000) ∧ (0 < z.2.2 ∧ z.2.2 ≤ 1000000000000000)) ∧ ltF (a, b) (c, d) = ltF z.1 z.2)
    (fun z => ⟨[(0, .num .i64 z.1.1), (1, .num .i64 z.1.2), (2, .num .i64 z.2.1), (3, .num .i64 z.2.2)], []⟩) (fun z => (z.1.2 + z.2.2).toNat) ((a, b), (c, d)) id ⟨⟨ha, hb⟩, ⟨hc, hd⟩, rfl⟩ (by simp [SLe, SLe0, convTm, convHp, conv, conv0, lkT, lkH, clean]) ?_
  rintro ⟨⟨a', b'⟩, ⟨c', d'⟩⟩ ⟨⟨ha', hb'⟩, ⟨hc', hd'⟩, heq⟩
  simp only [] at ha' hb' hc' hd' heq
  obtain ⟨s1, s2⟩ := frac_step ha'.1 hb'.1 hc'.1 hd'.1
  obtain ⟨q, r, e1, e2, ea, r0, r1, q0, q9⟩ := part_q ha'.1 hb'.1
  obtain ⟨p, s, e3, e4, ec, t0, t1, p0, p9⟩ := part_q hc'.1 hd'.1
  rw [e1, e3] at s1 s2
  rw [e2, e4] at s2
  have w1 : IntKind.i64.wrap q = q := wr (by omega) (by omega)
  have w2 : IntKind.i64.wrap p = p := wr (by omega) (by omega)
  cases c1 : (q != p) with
  | true =>
    have hne : q ≠ p := by simpa using c1
    have hv := s1 hne
    rw [← heq] at hv
    simp only [V_seq, V_ret, V_block, V_draw, V_cond, brW_true, drawW, pairsOf, WD_nil, WD_cons, effOp3, KN_seq, KXr_nil, KXr_seq, KXr_block, KXr_back, QE, asB, effOp, effPure, pureV, binV, strip, lkT, lkH, ISt.app, opI, gO, gB, allB, gval, wrapG, dstOK, setD, clean, Gives, Ideal.Fin, conv, conv0, Op.operands, reduceIte, reduceCtorEq, Nat.reduceLT, Nat.reduceEqDiff, ne_eq, true_and, and_true, and_self, implies_true, forall_const, List.nil_append, List.cons_append, List.append_nil, hN, e1, e3, w1, w2, c1, hv]
    omega
  | false =>
    have he : q = p := by simpa using c1
    have hv := s2 he
    rw [← heq] at hv
    cases c2 : (s == 0) with
    | true =>
      have hs : s = 0 := by simpa using c2
      have hf : ltF (a, b) (c, d) = false := by
        rw [hv, hs]
        have := Int.mul_nonneg r0 (show 0 ≤ d' by omega)
        exact decide_eq_false (by omega)
      simp only [V_seq, V_skip, V_ret, V_block, V_region, V_draw, V_cond, brW_true, brW_false, drawW, pairsOf, W_nil, W_cons, WD_nil, WD_cons, effOp2, effOp3, KN_seq, KXr_nil, KXr_seq, KXr_block, KXr_back, QE, asB, effOp, effPure, pureV, binV, ofC, strip, lkT, lkH, ISt.app, opI, gO, gB, allB, gval, wrapG, dstOK, setD, clean, Gives, Ideal.Fin, conv, conv0, Op.operands, reduceIte, reduceCtorEq, Nat.reduceLT, Nat.reduceEqDiff, ne_eq, true_and, and_true, and_self, implies_true, forall_const, List.nil_append, List.cons_append, List.append_nil, hN, e1, e2, e3, e4, w1, w2, c1, c2, hf]
      omega
    | false =>
      have hs : s ≠ 0 := by simpa using c2
      cases c3 : (r == 0) with
      | true =>
        have hr : r = 0 := by simpa using c3
        have hf : ltF (a, b) (c, d) = true := by
          rw [hv, hr]
          have := Int.mul_pos (show 0 < s by omega) (show 0 < b' by omega)
          exact decide_eq_true (by omega)
        simp only [V_seq, V_skip, V_ret, V_block, V_region, V_draw, V_cond, brW_true, brW_false, drawW, pairsOf, W_nil, W_cons, WD_nil, WD_cons, effOp2, effOp3, KN_seq, KXr_nil, KXr_seq, KXr_block, KXr_back, QE, asB, effOp, effPure, pureV, binV, ofC, strip, lkT, lkH, ISt.app, opI, gO, gB, allB, gval, wrapG, dstOK, setD, clean, Gives, Ideal.Fin, conv, conv0, Op.operands, reduceIte, reduceCtorEq, Nat.reduceLT, Nat.reduceEqDiff, ne_eq, true_and, and_true, and_self, implies_true, forall_const, List.nil_append, List.cons_append, List.append_nil, hN, e1, e2, e3, e4, w1, w2, c1, c2, c3, hf]
        omega
      | false =>
        have hr : r ≠ 0 := by simpa using c3
        simp only [V_seq, V_skip, V_block, V_region, V_draw, V_cond, brW_false, drawW, pairsOf, W_nil, W_cons, WD_nil, WD_cons, effOp2, effOp3, KN_seq, KN_block, KN_back, asB, effOp, effPure, pureV, binV, ofC, strip, lkT, ISt.app, opI, gO, gB, allB, gval, wrapG, dstOK, setD, Op.operands, reduceIte, reduceCtorEq, Nat.reduceLT, Nat.reduceEqDiff, ne_eq, true_and, and_self, implies_true, forall_const, List.nil_append, List.cons_append, List.append_nil, hN, e1, e2, e3, e4, w1, w2, c1, c2, c3]
        repeat refine And.intro (by first | omega | (simp; done) | (simp; omega)) ?_
        refine ⟨((d', s), (b', r)), id, ⟨⟨⟨by simp only []; omega, by simp only []; omega⟩, ⟨by simp only []; omega, by simp only []; omega⟩⟩, ⟨⟨by simp only []; omega, by simp only []; omega⟩, ⟨by simp only []; omega, by simp only []; omega⟩⟩, ?_⟩, by simp only []; omega, by simp [SLe, SLe0, convTm, convHp, conv, conv0, lkT, lkH, clean]⟩
        rw [hv]; exact frac_turn.symm
def sp_spec_fractionLess : PSpec := ⟨fun xs => match xs with | [.num .i64 a, .num .i64 b, .num .i64 c, .num .i64 d] => ((fun (a : Int) (b : Int) (c : Int) (d : Int) => 0 ≤ a ∧ a ≤ 1000000000000000) a b c d) ∧ ((fun (a : Int) (b : Int) (c : Int) (d : Int) => 0 < b ∧ b ≤ 1000000000000000) a b c d) ∧ ((fun (a : Int) (b : Int) (c : Int) (d : Int) => 0 ≤ c ∧ c ≤ 1000000000000000) a b c d) ∧ ((fun (a : Int) (b : Int) (c : Int) (d : Int) => 0 < d ∧ d ≤ 1000000000000000) a b c d) | _ => False, fun xs => match xs with | [.num _ a, .num _ b, .num _ c, .num _ d] => (fun (a : Int) (b : Int) (c : Int) (d : Int) => .bool (ltF (a, b) (c, d))) a b c d | _ => .junk, false⟩
theorem gk_spec_fractionLess : ∀ args, sp_spec_fractionLess.pre args → ICall Try.prog 113 args (sp_spec_fractionLess.val args) := by
  intro args h
  unfold sp_spec_fractionLess at h ⊢; simp only at h ⊢; split at h
  · obtain ⟨h0, h1, h2, h3⟩ := h
    simp only [toPs_enc] at *
    exact c_spec_fractionLess _ _ _ _ h0 h1 h2 h3
  · exact h.elim
theorem en_spec_fractionLess : Enters Try.prog 113 := enters_of Try.func113 (by kernel_rfl) rfl

def in9' (p : Pt) : Prop := (-1000 ≤ p.1 ∧ p.1 ≤ 1000) ∧ (-1000 ≤ p.2 ∧ p.2 ≤ 1000)
theorem turn_bd' {a b c : Pt} (ha : in9' a) (hb : in9' b) (hc : in9' c) : -8000000 ≤ turn a b c ∧ turn a b c ≤ 8000000 := by
  obtain ⟨⟨a1, a2⟩, a3, a4⟩ := ha
  obtain ⟨⟨b1, b2⟩, b3, b4⟩ := hb
  obtain ⟨⟨c1, c2⟩, c3, c4⟩ := hc
  have h1 := mulb (x := b.1 - a.1) (y := c.2 - a.2) (A := 2000) (B := 2000) (by omega) (by omega)
  have h2 := mulb (x := b.2 - a.2) (y := c.1 - a.1) (A := 2000) (B := 2000) (by omega) (by omega)
  unfold turn; omega
theorem sqd_bd' {a b : Pt} (ha : in9' a) (hb : in9' b) : 0 ≤ sqd a b ∧ sqd a b ≤ 8000000 := by
  obtain ⟨⟨a1, a2⟩, a3, a4⟩ := ha
  obtain ⟨⟨b1, b2⟩, b3, b4⟩ := hb
  have h1 := mulb (x := a.1 - b.1) (y := a.1 - b.1) (A := 2000) (B := 2000) (by omega) (by omega)
  have h2 := mulb (x := a.2 - b.2) (y := a.2 - b.2) (A := 2000) (B := 2000) (by omega) (by omega)
  have := sqd_nonneg a b
  unfold sqd at *; omega
/-- Valid points are within the square. -/
theorem okP_in {p : Pt} (h : okP p = true) : in9' p := by
  simp only [okP, inR, Bool.and_eq_true, decide_eq_true_eq] at h
  exact h
theorem pA_same (l : List Pt) (i : Nat) : pA' l i = pAt l i := rfl
theorem pAt_in {l : List Pt} (h : ∀ p ∈ l, okP p = true) {i : Nat} (hi : i < l.length) : in9' (pAt l i) := okP_in (h _ (by simp [hi]))
theorem most_bd {h : List Pt} {a b : Pt} (ho : ∀ p ∈ h, okP p = true) (ha : in9' a) (hb : in9' b) : ∀ k, k ≤ h.length → 0 ≤ mostN h a b k ∧ mostN h a b k ≤ 8000000 := fun k hk =>
  ⟨mostN_nonneg h a b k, mostN_le (by omega) (fun j hj => (turn_bd' ha hb (pAt_in ho hj)).2) k hk⟩
theorem wide_bd {h : List Pt} (ho : ∀ p ∈ h, okP p = true) (hn : h.Nodup) (h2 : 2 ≤ h.length) {i : Nat} (hi : i < h.length) : (0 ≤ (wideP h i).1 ∧ (wideP h i).1 ≤ 64000000000000) ∧ (0 < (wideP h i).2 ∧ (wideP h i).2 ≤ 8000000) := by
  have hm := Nat.mod_lt (i + 1) (show 0 < h.length by omega)
  have b1 := most_bd ho (pAt_in ho hi) (pAt_in ho hm) h.length (Nat.le_refl _)
  have b2 := sqd_bd' (pAt_in ho hi) (pAt_in ho hm)
  have b3 := mulb (x := mostN h (pA' h i) (pA' h ((i + 1) % h.length)) h.length) (y := mostN h (pA' h i) (pA' h ((i + 1) % h.length)) h.length) (A := 8000000) (B := 8000000) (by have := b1; simp only [pA_same]; omega) (by have := b1; simp only [pA_same]; omega)
  have b4 := Int.mul_nonneg b1.1 b1.1
  refine ⟨⟨b4, by unfold wideP; simp only; omega⟩, ?_, b2.2⟩
  rcases Int.lt_or_eq_of_le b2.1 with q | q
  · exact q
  · exfalso
    have e := sqd_eq_zero q.symm
    exact mod_ne h2 hi (pA_inj hn hi hm e).symm
theorem hull_ok {l : List Pt} (h : okPs l = true) : (∀ p ∈ hullP l, okP p = true) ∧ (hullP l).Nodup ∧ (hullP l).length ≤ 20 := by
  have h2 := okPs_len h
  have h3 := hullP_len l
  refine ⟨fun p hp => ?_, nodup_hullA (asc_insP l), by omega⟩
  have : l.all okP = true := by unfold okPs at h; rw [Bool.and_eq_true] at h; exact h.1
  exact List.all_eq_true.1 this p (mem_hullP_sub hp)
def g_spec_widthAt : List (Nat × PSpec) := [(91, sp_spec_cross), (177, sp_spec_square)]
theorem gok_spec_widthAt : GOK Try.prog g_spec_widthAt := gok_cons gk_spec_cross en_spec_cross (gok_cons gk_spec_square en_spec_square (gok0))
theorem lk_spec_widthAt_spec_cross : lkG g_spec_widthAt 91 = sp_spec_cross := rfl
theorem lk_spec_widthAt_spec_square : lkG g_spec_widthAt 177 = sp_spec_square := rfl
def h_spec_widthAt : List (Nat × HSpec) := []
theorem hok_spec_widthAt : HOK Try.prog h_spec_widthAt := hok0
theorem c_spec_widthAt (h : List Pt) (k : Int) (ho : ∀ p ∈ h, okP p = true) (hk : 0 ≤ k ∧ k < h.length) (hsz : h.length ≤ 20) : ICall Try.prog 112 [.sl 2 (encPs h), .num .i64 k] (.tup [.num .i64 (mostN h (pAt h k.toNat) (pAt h ((k.toNat + 1) % h.length)) h.length), .num .i64 (sqd (pAt h k.toNat) (pAt h ((k.toNat + 1) % h.length)))]) := by
  refine icall_V (G := g_spec_widthAt) (H := []) [(5, [(0, 17), (1, 17), (2, 17), (3, 17), (5, 17), (6, 17), (7, 17), (8, 17), (9, 17), (10, 17), (11, 17), (13, 17), (14, 17), (15, 17)]), (6, [(0, 13), (1, 13), (2, 13), (3, 13), (5, 13), (6, 13), (7, 13), (8, 13), (9, 13), (10, 13), (11, 13)])] tabOK mixed gok_spec_widthAt hok_spec_widthAt Try.func112 rfl Try.ntmps112 Try.results112 rfl (by kernel_rfl) fun F hN hlen => ?_
  have el := len_encPs h
  obtain ⟨i, rfl⟩ : ∃ i : Nat, k = i := ⟨k.toNat, by omega⟩
  have hi : i < h.length := by omega
  have hm := Nat.mod_lt (i + 1) (show 0 < h.length by omega)
  have g1 := getD_encPs hi
  have g2 := getD_encPs hm
  have a1 := pAt_in ho hi
  have a2 := pAt_in ho hm
  have sm9 : ∀ p : Pt, in9' p → Sm p := fun p hp => ⟨by unfold sm1; have := hp.1; omega, by unfold sm1; have := hp.2; omega⟩
  have w1 : IntKind.i64.wrap (((i : Nat) : Int) + 1) = ((i + 1 : Nat) : Int) := by rw [wr (by omega) (by omega)]; omega
  have w2 : (((i + 1 : Nat) : Int).tmod ((h.length : Nat) : Int)) = (((i + 1) % h.length : Nat) : Int) := by rw [Int.tmod_eq_emod_of_nonneg (by omega)]; rfl
  have hmost := fun j hj => most_bd ho a1 a2 j hj
  obtain ⟨p, hp⟩ : ∃ p, pAt h i = p := ⟨_, rfl⟩
  obtain ⟨q, hq⟩ : ∃ q, pAt h ((i + 1) % h.length) = q := ⟨_, rfl⟩
  rw [hp] at g1 a1 hmost
  rw [hq] at g2 a2 hmost
  have s1 := sm9 p a1
  have s2 := sm9 q a2
  simp only [Int.toNat_natCast, hp, hq]
  simp only [V_seq, V_block, V_region, W_nil, W_cons, effOp2, KN_seq, effOp, effPure, pureV, ofC, strip, ISt.app, opI, gO, gB, allB, gval, wrapG, dstOK, setD, enumT, Op.operands, Nat.reduceLT, Nat.zero_add, true_and, and_self, implies_true, List.nil_append, List.cons_append, List.append_nil, hN]
  refine V_loop (α := Nat) ⟨tabOK, mixed, gok_spec_widthAt, hok_spec_widthAt⟩ (by kernel_rfl) (fun j => j ≤ h.length) (fun j => ⟨[(7, .num .i64 j), (6, .num .i64 (mostN h p q j)), (0, .sl 2 (encPs h)), (1, .num .i64 i)], []⟩) (fun j => h.length - j) 0 id (Nat.zero_le _) (by simp [SLe, SLe0, convTm, convHp, conv, conv0, lkT, lkH, clean, mostN]) ?_
  intro j hj
  simp only [V_seq, V_region, V_cond, W_nil, W_cons, effOp2, KN_seq, asB, effOp, effPure, pureV, binV, lenV, strip, lkT, ISt.app, opI, gO, gB, allB, gval, wrapG, dstOK, setD, Op.operands, Call.operands, List.append_toArray, reduceIte, reduceCtorEq, Nat.reduceLT, Nat.reduceEqDiff, ne_eq, not_false_eq_true, true_and, and_self, implies_true, List.nil_append, List.cons_append, List.append_nil, tab23, hN, el]
  refine brW_some (fun hh => ?_) (fun hh => ?_)
  · have hj' : j < h.length := by simpa using hh
    have hw := wr_succ hj' (by rw [maxLen_eq]; omega)
    have g3 := getD_encPs hj'
    have a3 := pAt_in ho hj'
    have hst : mostN h p q (j + 1) = max (mostN h p q j) (turn p q (pAt h j)) := rfl
    obtain ⟨x, hx⟩ : ∃ x, pAt h j = x := ⟨_, rfl⟩
    rw [hx] at g3 a3 hst
    have s3 := sm9 x a3
    simp only [V_seq, V_skip, V_block, V_region, V_draw, drawW, WS_nil, pairsOf, W_nil, W_cons, effOp2, effOp3, WI_nil, WI_cons, KN_seq, KN_block, KN_back, dynOK, indB, farB, freshB, freshK, freshK1, heapy, effOp, effPure, effCall, giveUp, hasAll, pureV, binV, partV, eltV, loadV, iaddrV, lenV, ofC, strip, lkT, lkH, ISt.app, opI, gO, gB, allB, gval, wrapG, dstOK, setD, mentTm, mentHp, IV.ment, lendV, lendP, lent, lentP, idsV, idsL, lkHS, flat, clean, callArgs, callFn, allLent, Op.operands, Call.operands, List.append_toArray, reduceIte, reduceCtorEq, cond_true, cond_false, Bool.or_false, Bool.and_true, Bool.and_eq_true, Bool.not_true, Bool.not_false, Nat.reduceAdd, Nat.reduceLT, Nat.reduceLeDiff, Nat.reduceEqDiff, Nat.reduceBEq, Nat.zero_add, ne_eq, not_false_eq_true, true_and, and_true, and_false, and_self, implies_true, forall_const, List.map_cons, List.map_nil, List.nil_append, List.cons_append, List.append_nil, List.getD_cons_zero, List.getD_cons_succ, List.length_cons, List.length_nil, List.take_succ_cons, List.take_zero, List.take_nil, List.drop_zero, ex_clo, or_self, tab23, tab30, hN, pe, Int.toNat_natCast, lk_spec_widthAt_spec_cross, sp_spec_cross, el, g1, g2, g3, hw, w1, w2, s1, s2, s3, Int.toNat_natCast]
    repeat refine And.intro (by first | omega | (simp; done) | (simp; omega)) ?_
    exact ⟨j + 1, id, by simp only []; omega, by simp only []; omega, by simp only [hst]; exact by simp [SLe, SLe0, convTm, convHp, conv, conv0, lkT, lkH, clean]⟩
  · have hje : j = h.length := by simp at hh; omega
    subst hje
    simp only [V_seq, V_ret, V_exit, V_draw, drawW, WS_nil, pairsOf, W_nil, W_cons, effOp2, effOp3, WI_nil, WI_cons, KN_seq, KXr_nil, KXe_nil, KXe_seq, KXe_block, KXe_back, QE, dynOK, indB, farB, freshB, freshK, freshK1, heapy, effOp, effPure, effCall, giveUp, hasAll, pureV, binV, partV, eltV, loadV, iaddrV, lenV, ofC, strip, lkT, lkH, ISt.app, opI, gO, gB, allB, gval, wrapG, dstOK, setD, mentTm, mentHp, IV.ment, lendV, lendP, lent, lentP, idsV, idsL, lkHS, flat, clean, callArgs, callFn, allLent, Gives, Ideal.Fin, conv, conv0, Op.operands, Call.operands, List.append_toArray, reduceIte, reduceCtorEq, cond_true, cond_false, Bool.or_false, Bool.and_true, Bool.and_eq_true, Bool.not_true, Bool.not_false, Nat.reduceAdd, Nat.reduceLT, Nat.reduceLeDiff, Nat.reduceEqDiff, Nat.reduceBEq, Nat.zero_add, ne_eq, not_false_eq_true, true_and, and_true, and_false, and_self, implies_true, forall_const, List.map_cons, List.map_nil, List.nil_append, List.cons_append, List.append_nil, List.getD_cons_zero, List.getD_cons_succ, List.length_cons, List.length_nil, List.take_succ_cons, List.take_zero, List.take_nil, List.drop_zero, ex_clo, or_self, tab23, tab30, hN, pe, Int.toNat_natCast, lk_spec_widthAt_spec_square, sp_spec_square, el, g1, g2, w1, w2, s1, s2, Int.toNat_natCast]
    omega
def sp_spec_widthAt : PSpec := ⟨fun xs => match xs with | [.sl 2 hes, .num .i64 k] => isPs hes ∧ ((fun (h : List Pt) (k : Int) => ∀ p ∈ h, okP p = true) (toPs hes) k) ∧ ((fun (h : List Pt) (k : Int) => 0 ≤ k ∧ k < h.length) (toPs hes) k) ∧ ((fun (h : List Pt) (k : Int) => h.length ≤ 20) (toPs hes) k) | _ => False, fun xs => match xs with | [.sl _ hes, .num _ k] => (fun (h : List Pt) (k : Int) => .tup [.num .i64 (mostN h (pAt h k.toNat) (pAt h ((k.toNat + 1) % h.length)) h.length), .num .i64 (sqd (pAt h k.toNat) (pAt h ((k.toNat + 1) % h.length)))]) (toPs hes) k | _ => .junk, false⟩
theorem gk_spec_widthAt : ∀ args, sp_spec_widthAt.pre args → ICall Try.prog 112 args (sp_spec_widthAt.val args) := by
  intro args h
  unfold sp_spec_widthAt at h ⊢; simp only at h ⊢; split at h
  · obtain ⟨h0, h1, h2, h3⟩ := h
    obtain ⟨l0, rfl⟩ := isP_ex h0
    simp only [toPs_enc] at *
    exact c_spec_widthAt _ _ h1 h2 h3
  · exact h.elim
theorem en_spec_widthAt : Enters Try.prog 112 := enters_of Try.func112 (by kernel_rfl) rfl

def widV (l : List Pt) : Int := if okPs l then widthP (hullP l) else -1
def g_spec_WidthEdge : List (Nat × PSpec) := [(76, sp_spec_validPoints), (111, sp_spec_hull), (112, sp_spec_widthAt), (113, sp_spec_fractionLess)]
theorem gok_spec_WidthEdge : GOK Try.prog g_spec_WidthEdge := gok_cons gk_spec_validPoints en_spec_validPoints (gok_cons gk_spec_hull en_spec_hull (gok_cons gk_spec_widthAt en_spec_widthAt (gok_cons gk_spec_fractionLess en_spec_fractionLess (gok0))))
theorem lk_spec_WidthEdge_spec_validPoints : lkG g_spec_WidthEdge 76 = sp_spec_validPoints := rfl
theorem lk_spec_WidthEdge_spec_hull : lkG g_spec_WidthEdge 111 = sp_spec_hull := rfl
theorem lk_spec_WidthEdge_spec_widthAt : lkG g_spec_WidthEdge 112 = sp_spec_widthAt := rfl
theorem lk_spec_WidthEdge_spec_fractionLess : lkG g_spec_WidthEdge 113 = sp_spec_fractionLess := rfl
def h_spec_WidthEdge : List (Nat × HSpec) := []
theorem hok_spec_WidthEdge : HOK Try.prog h_spec_WidthEdge := hok0
theorem c_spec_WidthEdge (l : List Pt)  : ICall Try.prog 44 [.sl 2 (encPs l)] (.num .i64 (widV l)) := by
  refine icall_V (G := g_spec_WidthEdge) (H := []) [] tabOK mixed gok_spec_WidthEdge hok_spec_WidthEdge Try.func44 rfl Try.ntmps44 Try.results44 rfl (by kernel_rfl) fun F hN hlen => ?_
  cases hk : okPs l with
  | false =>
    have hv : widV l = -1 := by rw [widV, hk]; rfl
    simp only [V_seq, V_ret, V_region, V_cond, brW_true, W_nil, W_cons, effOp2, KN_seq, KXr_nil, KXr_seq, QE, asB, effOp, effPure, effCall, giveUp, hasAll, pureV, ofC, strip, lkT, lkH, ISt.app, opI, gO, gB, allB, gval, wrapG, dstOK, setD, lendV, lendP, lent, lentP, idsV, idsL, lkHS, flat, clean, callArgs, callFn, allLent, enumT, Gives, Ideal.Fin, conv, conv0, Op.operands, reduceIte, reduceCtorEq, cond_true, Bool.or_false, Bool.not_true, Bool.not_false, Nat.reduceLT, Nat.reduceEqDiff, and_self, implies_true, List.map_cons, List.map_nil, List.nil_append, List.cons_append, List.append_nil, ex_clo, or_self, hN, isPs_enc, toPs_enc, lk_spec_WidthEdge_spec_validPoints, sp_spec_validPoints, hk, hv]
  | true =>
    have hv : widV l = widthP (hullP l) := by rw [widV, hk]; rfl
    have hn := okPs_len hk
    have hm := okPs_sm hk
    have hl : l.length ≤ 1000 := by omega
    obtain ⟨ho, hnd, hsz⟩ := hull_ok hk
    obtain ⟨h, hh⟩ : ∃ h, hullP l = h := ⟨_, rfl⟩
    rw [hh] at ho hnd hsz hv
    have eh := len_encPs h
    by_cases h3 : h.length < 3
    · have d0 : decide (((h.length : Nat) : Int) < 3) = true := decide_eq_true (by omega)
      have hv2 : widV l = -1 := by rw [hv, widthP, if_pos h3]
      simp only [V_seq, V_skip, V_ret, V_region, V_cond, brW_true, brW_false, W_nil, W_cons, effOp2, KN_seq, KXr_nil, KXr_seq, QE, asB, effOp, effPure, effCall, giveUp, hasAll, pureV, binV, lenV, ofC, strip, lkT, lkH, ISt.app, opI, gO, gB, allB, gval, wrapG, dstOK, setD, lendV, lendP, lent, lentP, idsV, idsL, lkHS, flat, clean, callArgs, callFn, allLent, enumT, Gives, Ideal.Fin, conv, conv0, Op.operands, Call.operands, List.append_toArray, reduceIte, reduceCtorEq, cond_true, cond_false, Bool.or_false, Bool.not_true, Nat.reduceLT, Nat.reduceEqDiff, ne_eq, not_false_eq_true, and_self, implies_true, List.map_cons, List.map_nil, List.nil_append, List.cons_append, List.append_nil, ex_clo, or_true, or_self, Bool.false_eq_true, tab23, hN, isPs_enc, toPs_enc, lk_spec_WidthEdge_spec_validPoints, lk_spec_WidthEdge_spec_hull, sp_spec_validPoints, sp_spec_hull, hk, hl, hm, hh, eh, d0, hv2]
    · have d0 : decide (((h.length : Nat) : Int) < 3) = false := decide_eq_false (by omega)
      have hv2 : widV l = (bestW h h.length : Int) := by rw [hv, widthP, if_neg h3]
      simp only [V_seq, V_skip, V_block, V_region, V_cond, brW_false, W_nil, W_cons, effOp2, KN_seq, asB, effOp, effPure, effCall, giveUp, hasAll, pureV, binV, lenV, ofC, strip, lkT, lkH, ISt.app, opI, gO, gB, allB, gval, wrapG, dstOK, setD, lendV, lendP, lent, lentP, idsV, idsL, lkHS, flat, clean, callArgs, callFn, allLent, enumT, Op.operands, Call.operands, List.append_toArray, reduceIte, reduceCtorEq, cond_true, cond_false, Bool.or_false, Bool.not_true, Nat.reduceLT, Nat.reduceEqDiff, ne_eq, not_false_eq_true, true_and, and_self, implies_true, List.map_cons, List.map_nil, List.nil_append, List.cons_append, List.append_nil, ex_clo, or_true, or_self, Bool.false_eq_true, tab23, hN, isPs_enc, toPs_enc, lk_spec_WidthEdge_spec_validPoints, lk_spec_WidthEdge_spec_hull, sp_spec_validPoints, sp_spec_hull, hk, hl, hm, hh, eh, d0]
      refine V_loop (α := Nat) ⟨tabOK, mixed, gok_spec_WidthEdge, hok_spec_WidthEdge⟩ (by kernel_rfl) (fun i => 1 ≤ i ∧ i ≤ h.length) (fun i => ⟨[(5, .num .i64 i), (4, .num .i64 ((bestW h i : Nat) : Int)), (3, .sl 2 (encPs h))], []⟩) (fun i => h.length - i) 1 id ⟨Nat.le_refl _, by omega⟩ (by simp [SLe, SLe0, convTm, convHp, conv, conv0, lkT, lkH, clean, bestW_one]) ?_
      rintro i ⟨hi1, hi⟩
      have hbl := bestW_lt (h := h) (by omega) i hi
      have hst := bestW_succ (h := h) (i := i) (by omega)
      have hend : i = h.length → widV l = ((bestW h i : Nat) : Int) := fun e => by rw [hv2, e]
      obtain ⟨b, hb⟩ : ∃ b, bestW h i = b := ⟨_, rfl⟩
      rw [hb] at hbl hst hend
      simp only [hb]
      simp only [V_seq, V_region, V_cond, W_nil, W_cons, effOp2, KN_seq, asB, effOp, effPure, pureV, binV, lenV, strip, lkT, ISt.app, opI, gO, gB, allB, gval, wrapG, dstOK, setD, Op.operands, Call.operands, List.append_toArray, reduceIte, reduceCtorEq, Nat.reduceLT, Nat.reduceEqDiff, ne_eq, not_false_eq_true, true_and, and_self, implies_true, List.nil_append, List.cons_append, List.append_nil, tab23, hN, eh]
      refine brW_some (fun hc => ?_) (fun hc => ?_)
      · have hi' : i < h.length := by simpa using hc
        have hw := wr_succ hi' (by rw [maxLen_eq]; omega)
        obtain ⟨⟨x1, x2⟩, x3, x4⟩ := wide_bd ho hnd (by omega) hi'
        obtain ⟨⟨y1, y2⟩, y3, y4⟩ := wide_bd ho hnd (by omega) hbl
        obtain ⟨X, hX⟩ : ∃ X, mostN h (pAt h i) (pAt h ((i + 1) % h.length)) h.length = X := ⟨_, rfl⟩
        obtain ⟨N, hN'⟩ : ∃ N, sqd (pAt h i) (pAt h ((i + 1) % h.length)) = N := ⟨_, rfl⟩
        obtain ⟨Y, hY⟩ : ∃ Y, mostN h (pAt h b) (pAt h ((b + 1) % h.length)) h.length = Y := ⟨_, rfl⟩
        obtain ⟨M, hM⟩ : ∃ M, sqd (pAt h b) (pAt h ((b + 1) % h.length)) = M := ⟨_, rfl⟩
        have e1 : wideP h i = (X * X, N) := by rw [← hX, ← hN']; rfl
        have e2 : wideP h b = (Y * Y, M) := by rw [← hY, ← hM]; rfl
        rw [e1] at x1 x2 x3 x4 hst
        rw [e2] at y1 y2 y3 y4 hst
        simp only at x1 x2 x3 x4 y1 y2 y3 y4
        have w1 : IntKind.i64.wrap (X * X) = X * X := wr (by omega) (by omega)
        have w2 : IntKind.i64.wrap (Y * Y) = Y * Y := wr (by omega) (by omega)
        cases c1 : ltF (X * X, N) (Y * Y, M) with
        | true =>
          rw [c1, if_pos rfl] at hst
          simp only [V_seq, V_skip, V_block, V_region, V_cond, brW_true, W_nil, W_cons, effOp2, KN_seq, KN_block, KN_back, asB, effOp, effPure, effCall, giveUp, hasAll, pureV, binV, ofC, strip, lkT, lkH, ISt.app, opI, gO, gB, allB, gval, wrapG, dstOK, setD, lendV, lendP, lent, lentP, idsV, idsL, lkHS, flat, flatL, clean, cleanL, callArgs, callFn, allLent, Op.operands, reduceIte, cond_true, Bool.or_false, Bool.and_true, Bool.not_true, Nat.reduceAdd, Nat.reduceLT, Nat.reduceEqDiff, Nat.zero_add, true_and, and_true, and_self, implies_true, forall_const, List.map_cons, List.map_nil, List.nil_append, List.cons_append, List.append_nil, List.getD_cons_zero, List.getD_cons_succ, List.length_cons, List.length_nil, ex_clo, or_self, hN, Int.toNat_natCast, isPs_enc, toPs_enc, lk_spec_WidthEdge_spec_widthAt, lk_spec_WidthEdge_spec_fractionLess, sp_spec_widthAt, sp_spec_fractionLess, hsz, hw, hX, hN', hY, hM, w1, w2, c1, Int.toNat_natCast]
          exact ⟨⟨ho, by omega⟩, ⟨ho, by omega⟩, ⟨by omega, by omega, by omega, by omega⟩, i + 1, id, ⟨by omega, by omega⟩, by simp only []; omega, by simp only [hst]; exact by simp [SLe, SLe0, convTm, convHp, conv, conv0, lkT, lkH, clean]⟩
        | false =>
          rw [c1, if_neg (by decide)] at hst
          simp only [V_seq, V_skip, V_block, V_region, V_cond, brW_false, W_nil, W_cons, effOp2, KN_seq, KN_block, KN_back, asB, effOp, effPure, effCall, giveUp, hasAll, pureV, binV, ofC, strip, lkT, lkH, ISt.app, opI, gO, gB, allB, gval, wrapG, dstOK, setD, lendV, lendP, lent, lentP, idsV, idsL, lkHS, flat, flatL, clean, cleanL, callArgs, callFn, allLent, Op.operands, reduceIte, cond_true, Bool.or_false, Bool.and_true, Bool.not_true, Nat.reduceAdd, Nat.reduceLT, Nat.reduceEqDiff, Nat.zero_add, true_and, and_true, and_self, implies_true, forall_const, List.map_cons, List.map_nil, List.nil_append, List.cons_append, List.append_nil, List.getD_cons_zero, List.getD_cons_succ, List.length_cons, List.length_nil, ex_clo, or_self, hN, Int.toNat_natCast, isPs_enc, toPs_enc, lk_spec_WidthEdge_spec_widthAt, lk_spec_WidthEdge_spec_fractionLess, sp_spec_widthAt, sp_spec_fractionLess, hsz, hw, hX, hN', hY, hM, w1, w2, c1, Int.toNat_natCast]
          exact ⟨⟨ho, by omega⟩, ⟨ho, by omega⟩, ⟨by omega, by omega, by omega, by omega⟩, i + 1, id, ⟨by omega, by omega⟩, by simp only []; omega, by simp only [hst]; exact by simp [SLe, SLe0, convTm, convHp, conv, conv0, lkT, lkH, clean]⟩
      · have hie : i = h.length := by simp at hc; omega
        have hv3 := hend hie
        simp only [V_seq, V_ret, V_exit, V_region, W_nil, W_cons, effOp2, KN_seq, KXr_nil, KXe_nil, KXe_seq, KXe_block, KXe_back, QE, effOp, effPure, pureV, strip, lkT, lkH, ISt.app, opI, gO, gB, allB, gval, wrapG, dstOK, setD, clean, Gives, Ideal.Fin, conv, conv0, Op.operands, reduceIte, Nat.reduceLT, Nat.reduceEqDiff, and_self, implies_true, List.nil_append, List.cons_append, List.append_nil, hN, hv3]
def sp_spec_WidthEdge : PSpec := ⟨fun xs => match xs with | [.sl 2 les] => isPs les | _ => False, fun xs => match xs with | [.sl _ les] => (fun (l : List Pt) => .num .i64 (widV l)) (toPs les) | _ => .junk, false⟩
theorem gk_spec_WidthEdge : ∀ args, sp_spec_WidthEdge.pre args → ICall Try.prog 44 args (sp_spec_WidthEdge.val args) := by
  intro args h
  unfold sp_spec_WidthEdge at h ⊢; simp only at h ⊢; split at h
  · have h0 := h
    obtain ⟨l0, rfl⟩ := isP_ex h0
    simp only [toPs_enc] at *
    exact c_spec_WidthEdge _ 
  · exact h.elim
theorem en_spec_WidthEdge : Enters Try.prog 44 := enters_of Try.func44 (by kernel_rfl) rfl

def g_impl_WidthEdge : List (Nat × PSpec) := [(66, sp_impl_listOk), (94, sp_impl_hull), (114, sp_impl_edges_v), (89, sp_impl_turn), (115, sp_impl_far), (116, sp_impl_square_compare)]
theorem gok_impl_WidthEdge : GOK Try.prog g_impl_WidthEdge := gok_cons gk_impl_listOk en_impl_listOk (gok_cons gk_impl_hull en_impl_hull (gok_consO gk_impl_edges_v en_impl_edges_v (gok_cons gk_impl_turn en_impl_turn (gok_cons gk_impl_far en_impl_far (gok_cons gk_impl_square_compare en_impl_square_compare (gok0))))))
theorem lk_impl_WidthEdge_impl_listOk : lkG g_impl_WidthEdge 66 = sp_impl_listOk := rfl
theorem lk_impl_WidthEdge_impl_hull : lkG g_impl_WidthEdge 94 = sp_impl_hull := rfl
theorem lk_impl_WidthEdge_impl_edges_v : lkG g_impl_WidthEdge 114 = sp_impl_edges_v := rfl
theorem lk_impl_WidthEdge_impl_turn : lkG g_impl_WidthEdge 89 = sp_impl_turn := rfl
theorem lk_impl_WidthEdge_impl_far : lkG g_impl_WidthEdge 115 = sp_impl_far := rfl
theorem lk_impl_WidthEdge_impl_square_compare : lkG g_impl_WidthEdge 116 = sp_impl_square_compare := rfl
def h_impl_WidthEdge : List (Nat × HSpec) := []
theorem hok_impl_WidthEdge : HOK Try.prog h_impl_WidthEdge := hok0
theorem c_impl_WidthEdge (l : List Pt)  : ICall Try.prog 45 [.sl 2 (encPs l)] (.num .i64 (widV l)) := by
  refine icall_V (G := g_impl_WidthEdge) (H := []) [] tabOK mixed gok_impl_WidthEdge hok_impl_WidthEdge Try.func45 rfl Try.ntmps45 Try.results45 rfl (by kernel_rfl) fun F hN hlen => ?_
  cases hk : okPs l with
  | false =>
    have hv : widV l = -1 := by rw [widV, hk]; rfl
    simp only [V_seq, V_ret, V_region, V_cond, brW_true, W_nil, W_cons, effOp2, KN_seq, KXr_nil, KXr_seq, QE, asB, effOp, effPure, effCall, giveUp, hasAll, pureV, ofC, strip, lkT, lkH, ISt.app, opI, gO, gB, allB, gval, wrapG, dstOK, setD, lendV, lendP, lent, lentP, idsV, idsL, lkHS, flat, clean, callArgs, callFn, allLent, enumT, Gives, Ideal.Fin, conv, conv0, Op.operands, reduceIte, reduceCtorEq, cond_true, Bool.or_false, Bool.not_true, Bool.not_false, Nat.reduceLT, Nat.reduceEqDiff, and_self, implies_true, List.map_cons, List.map_nil, List.nil_append, List.cons_append, List.append_nil, ex_clo, or_self, hN, isPs_enc, toPs_enc, lk_impl_WidthEdge_impl_listOk, sp_impl_listOk, hk, hv]
  | true =>
    have hv : widV l = widthP (hullP l) := by rw [widV, hk]; rfl
    have hn := okPs_len hk
    have hm := okPs_sm hk
    have hl : l.length ≤ 400000 := by omega
    obtain ⟨ho, hnd, hsz⟩ := hull_ok hk
    obtain ⟨h, hh⟩ : ∃ h, hullP l = h := ⟨_, rfl⟩
    rw [hh] at ho hnd hsz hv
    have eh := len_encPs h
    by_cases h3 : h.length < 3
    · have d0 : decide (((h.length : Nat) : Int) < 3) = true := decide_eq_true (by omega)
      have hv2 : widV l = -1 := by rw [hv, widthP, if_pos h3]
      simp only [V_seq, V_skip, V_ret, V_region, V_cond, brW_true, brW_false, W_nil, W_cons, effOp2, KN_seq, KXr_nil, KXr_seq, QE, asB, effOp, effPure, effCall, giveUp, hasAll, pureV, binV, lenV, ofC, strip, lkT, lkH, ISt.app, opI, gO, gB, allB, gval, wrapG, dstOK, setD, lendV, lendP, lent, lentP, idsV, idsL, lkHS, flat, clean, callArgs, callFn, allLent, enumT, Gives, Ideal.Fin, conv, conv0, Op.operands, Call.operands, List.append_toArray, reduceIte, reduceCtorEq, cond_true, cond_false, Bool.or_false, Bool.not_true, Nat.reduceLT, Nat.reduceEqDiff, ne_eq, not_false_eq_true, and_self, implies_true, List.map_cons, List.map_nil, List.nil_append, List.cons_append, List.append_nil, ex_clo, or_true, or_self, Bool.false_eq_true, tab23, hN, isPs_enc, toPs_enc, lk_impl_WidthEdge_impl_listOk, lk_impl_WidthEdge_impl_hull, sp_impl_listOk, sp_impl_hull, hk, hl, hm, hh, eh, d0, hv2]
    · have d0 : decide (((h.length : Nat) : Int) < 3) = false := decide_eq_false (by omega)
      have hv2 : widV l = (bestW h h.length : Int) := by rw [hv, widthP, if_neg h3]
      have eE := len_encQs (edgesP h)
      have lE : (edgesP h).length = h.length := edgesN_len h h.length
      rw [lE] at eE
      have hs6 : h.length ≤ 1000000 := by omega
      simp only [V_seq, V_skip, V_block, V_region, V_cond, brW_false, W_nil, W_cons, effOp2, KN_seq, asB, effOp, effPure, effNew, effAlloc, effStore, effCall, giveUp, hasAll, skipE, pureV, storeV, binV, lenV, over, solid, buildL, IV.cells, ofC, strip, lkT, lkH, ISt.app, opI, gO, gB, allB, gval, wrapG, dstOK, setD, mentTm, mentHp, IV.ment, IV.mentL, oneI, lendV, lendP, lent, lentP, idsV, idsL, lkHS, flat, clean, callArgs, callFn, allLent, enumT, Op.operands, Call.operands, List.append_toArray, reduceIte, reduceCtorEq, cond_true, cond_false, Bool.or_false, Bool.or_true, Bool.and_true, Bool.not_true, Nat.reduceAdd, Nat.reduceLT, Nat.reduceLeDiff, Nat.reduceEqDiff, Nat.zero_add, ne_eq, not_false_eq_true, true_and, and_self, implies_true, List.map_cons, List.map_nil, List.nil_append, List.cons_append, List.append_nil, List.all_cons, List.all_nil, List.length_cons, List.length_nil, List.take_zero, List.drop_succ_cons, List.drop_nil, ex_clo, or_true, or_self, Bool.false_eq_true, tab23, tab115, tab116, hN, isPs_enc, toPs_enc, lk_impl_WidthEdge_impl_listOk, lk_impl_WidthEdge_impl_hull, lk_impl_WidthEdge_impl_edges_v, sp_impl_listOk, sp_impl_hull, sp_impl_edges_v, hk, hl, hm, hh, eh, d0, hs6, eE]
      refine V_loop (α := Nat) ⟨tabOK, mixed, gok_impl_WidthEdge, hok_impl_WidthEdge⟩ (by kernel_rfl) (fun i => i ≤ h.length) (fun i => ⟨[(24, .num .i64 i), (23, .num .i64 h.length), (22, .sl 4 (encQs (edgesP h))), (5, .ptr 5 0), (4, .num .i64 (if i = 0 then -1 else ((bestW h i : Nat) : Int))), (3, .sl 2 (encPs h))], [(5, some (.box 115 [.num .i64 (if i = 0 then 0 else (wideP h (bestW h i)).1), .num .i64 (if i = 0 then 0 else (wideP h (bestW h i)).2)]))]⟩) (fun i => h.length - i) 0 id (Nat.zero_le _) (by simp [SLe, SLe0, convTm, convHp, convB, conv, conv0, convL, lkT, lkH, clean]) ?_
      intro i hi
      simp only [V_seq, V_region, V_cond, W_nil, W_cons, effOp2, KN_seq, asB, effOp, effPure, pureV, binV, strip, lkT, ISt.app, opI, gO, gB, allB, gval, wrapG, dstOK, setD, Op.operands, reduceIte, Nat.reduceLT, Nat.reduceEqDiff, true_and, and_self, implies_true, List.nil_append, List.cons_append, hN]
      refine brW_some (fun hc => ?_) (fun hc => ?_)
      · have hi' : i < h.length := by simpa using hc
        have hw := wr_succ hi' (by rw [maxLen_eq]; omega)
        have g := getD_encQs (l := edgesP h) (i := i) (by omega)
        have hm2 := Nat.mod_lt (i + 1) (show 0 < h.length by omega)
        have a1 := pAt_in ho hi'
        have a2 := pAt_in ho hm2
        have hed : qAt (edgesP h) i = (pAt h i, pAt h ((i + 1) % h.length)) := edgesP_at hi'
        rw [hed] at g
        have sm9 : ∀ p : Pt, in9' p → Sm p := fun p hp => ⟨by unfold sm1; have := hp.1; omega, by unfold sm1; have := hp.2; omega⟩
        have hmost := fun j hj => most_bd ho a1 a2 j hj
        obtain ⟨⟨x1, x2⟩, x3, x4⟩ := wide_bd ho hnd (by omega) hi'
        have hwp : wideP h i = (mostN h (pAt h i) (pAt h ((i + 1) % h.length)) h.length * mostN h (pAt h i) (pAt h ((i + 1) % h.length)) h.length, sqd (pAt h i) (pAt h ((i + 1) % h.length))) := rfl
        obtain ⟨p, hp⟩ : ∃ p, pAt h i = p := ⟨_, rfl⟩
        obtain ⟨q, hq⟩ : ∃ q, pAt h ((i + 1) % h.length) = q := ⟨_, rfl⟩
        rw [hp, hq] at g hmost hwp
        rw [hp] at a1
        rw [hq] at a2
        have s1 := sm9 p a1
        have s2 := sm9 q a2
        obtain ⟨I, hI⟩ : ∃ I, (if i = 0 then -1 else ((bestW h i : Nat) : Int)) = I := ⟨_, rfl⟩
        obtain ⟨U, hU⟩ : ∃ U, (if i = 0 then 0 else (wideP h (bestW h i)).1) = U := ⟨_, rfl⟩
        obtain ⟨W, hW⟩ : ∃ W, (if i = 0 then 0 else (wideP h (bestW h i)).2) = W := ⟨_, rfl⟩
        simp only [hI, hU, hW]
        simp only [V_seq, V_skip, V_block, V_region, W_nil, W_cons, effOp2, KN_seq, effOp, effPure, effNew, effAlloc, effStore, skipE, pureV, storeV, partV, eltV, loadV, iaddrV, lenV, over, solid, IV.cells, ofC, strip, lkT, lkH, ISt.app, opI, gO, gB, allB, gval, wrapG, dstOK, setD, mentTm, mentHp, IV.ment, IV.mentL, oneI, Op.operands, Call.operands, List.append_toArray, reduceIte, reduceCtorEq, cond_true, Bool.or_false, Bool.and_true, Nat.reduceAdd, Nat.reduceLT, Nat.reduceLeDiff, Nat.reduceEqDiff, Nat.reduceBEq, Nat.zero_add, ne_eq, not_false_eq_true, true_and, and_true, and_false, and_self, implies_true, forall_const, List.nil_append, List.cons_append, List.append_nil, List.all_cons, List.all_nil, List.getD_cons_zero, List.length_cons, List.length_nil, List.take_succ_cons, List.take_zero, List.take_nil, List.drop_succ_cons, List.drop_zero, List.drop_nil, tab23, tab116, tab119, hN, Int.toNat_natCast, eE, eh, g]
        repeat refine And.intro (by first | omega | (simp; done) | (simp; omega)) ?_
        refine V_loop (α := Nat) ⟨tabOK, mixed, gok_impl_WidthEdge, hok_impl_WidthEdge⟩ (by kernel_rfl) (fun k => k ≤ h.length) (fun k => ⟨[(31, .num .i64 k), (30, .num .i64 h.length), (29, .sl 2 (encPs h)), (8, .num .i64 (mostN h p q k)), (7, .ptr 7 0), (6, .num .i64 i), (24, .num .i64 i), (23, .num .i64 h.length), (22, .sl 4 (encQs (edgesP h))), (5, .ptr 5 0), (4, .num .i64 I), (3, .sl 2 (encPs h))], [(7, some (.box 119 [.num .i64 p.1, .num .i64 p.2, .num .i64 q.1, .num .i64 q.2])), (5, some (.box 115 [.num .i64 U, .num .i64 W]))]⟩) (fun k => h.length - k) 0 id (Nat.zero_le _) (by simp [SLe, SLe0, convTm, convHp, convB, conv, conv0, convL, lkT, lkH, clean, mostN]) ?_
        intro k hk2
        simp only [V_seq, V_region, V_cond, W_nil, W_cons, effOp2, KN_seq, asB, effOp, effPure, pureV, binV, strip, lkT, ISt.app, opI, gO, gB, allB, gval, wrapG, dstOK, setD, Op.operands, reduceIte, Nat.reduceLT, Nat.reduceEqDiff, true_and, and_self, implies_true, List.nil_append, List.cons_append, hN]
        refine brW_some (fun hd => ?_) (fun hd => ?_)
        · have hk' : k < h.length := by simpa using hd
          have hwk := wr_succ hk' (by rw [maxLen_eq]; omega)
          have g3 := getD_encPs hk'
          have a3 := pAt_in ho hk'
          have hst : mostN h p q (k + 1) = max (mostN h p q k) (turn p q (pAt h k)) := rfl
          obtain ⟨x, hx⟩ : ∃ x, pAt h k = x := ⟨_, rfl⟩
          rw [hx] at g3 a3 hst
          have s3 := sm9 x a3
          simp only [V_seq, V_skip, V_block, V_region, W_nil, W_cons, effOp2, KN_seq, KN_block, KN_back, effOp, effPure, effNew, effAlloc, effStore, effCall, giveUp, hasAll, skipE, pureV, storeV, binV, partV, eltV, loadV, faddrV, iaddrV, over, solid, IV.cells, ofC, strip, lkT, lkH, ISt.app, opI, gO, gB, allB, gval, wrapG, dstOK, setD, mentTm, mentHp, IV.ment, IV.mentL, oneI, lendV, lendP, lent, lentP, idsV, idsL, lkHS, flat, clean, callArgs, callFn, allLent, IBlk.shape, Op.operands, Call.operands, List.append_toArray, reduceIte, reduceCtorEq, cond_true, Bool.or_false, Bool.and_true, Bool.not_true, Nat.reduceAdd, Nat.reduceLT, Nat.reduceLeDiff, Nat.reduceEqDiff, Nat.reduceBEq, Nat.add_zero, Nat.zero_add, ne_eq, not_false_eq_true, true_and, and_true, and_false, and_self, implies_true, forall_const, List.map_cons, List.map_nil, List.nil_append, List.cons_append, List.append_nil, List.all_cons, List.all_nil, Option.map_some, List.getD_cons_zero, List.getD_cons_succ, List.length_cons, List.length_nil, List.take_succ_cons, List.take_zero, List.take_nil, List.drop_succ_cons, List.drop_zero, List.drop_nil, ex_clo, or_self, tab23, tab30, tab119, hN, pe, Int.toNat_natCast, lk_impl_WidthEdge_impl_turn, sp_impl_turn, eh, g3, hwk, s1, s2, s3]
          repeat refine And.intro (by first | omega | (simp; done) | (simp; omega)) ?_
          exact ⟨k + 1, id, by simp only []; omega, by simp only []; omega, by simp only [hst]; exact by simp [SLe, SLe0, convTm, convHp, convB, conv, conv0, convL, lkT, lkH, clean]⟩
        · have hke : k = h.length := by simp at hd; omega
          subst hke
          obtain ⟨X, hX⟩ : ∃ X, mostN h p q h.length = X := ⟨_, rfl⟩
          obtain ⟨N, hN'⟩ : ∃ N, sqd p q = N := ⟨_, rfl⟩
          rw [hX, hN'] at hwp
          rw [hwp] at x1 x2 x3 x4
          simp only at x1 x2 x3 x4
          have w1 : IntKind.i64.wrap (X * X) = X * X := wr (by omega) (by omega)
          have hz1 : ¬ i + 1 = 0 := by omega
          rcases Nat.eq_zero_or_pos i with hi0 | hi0
          · have hI1 : I = -1 := by rw [← hI, if_pos hi0]
            have hU1 : U = 0 := by rw [← hU, if_pos hi0]
            have hW1 : W = 0 := by rw [← hW, if_pos hi0]
            have d1 : decide (I < 0) = true := by rw [hI1]; rfl
            have hb1 : bestW h (i + 1) = i := by rw [hi0]; exact bestW_one h
            simp only [V_seq, V_ret, V_exit, V_region, V_draw, V_cond, brW_true, drawW, pairsOf, W_nil, W_cons, WD_nil, WD_cons, effOp2, effOp3, KN_seq, KN_block, KN_back, KXr_nil, KXe_nil, KXe_seq, KXe_block, KXe_back, QE, asB, effOp, effPure, effPick, effNew, effAlloc, effStore, effCall, giveUp, hasAll, skipE, pureV, pickV, storeV, binV, partV, loadV, faddrV, over, solid, buildL, IV.cells, ofC, strip, lkT, lkH, ISt.app, opI, gO, gB, allB, gval, wrapG, dstOK, setD, mentTm, mentHp, IV.ment, IV.mentL, oneI, lendV, lendP, lent, lentP, idsV, idsL, lkHS, flat, clean, callArgs, callFn, allLent, Gives, Ideal.Fin, conv, conv0, IBlk.shape, Op.operands, reduceIte, reduceCtorEq, cond_true, Bool.or_false, Bool.or_true, Bool.and_true, Bool.not_true, Bool.not_false, Nat.reduceAdd, Nat.reduceLT, Nat.reduceLeDiff, Nat.reduceEqDiff, Nat.reduceBEq, Nat.add_zero, Nat.zero_add, ne_eq, not_false_eq_true, true_and, and_true, false_and, and_false, and_self, false_implies, implies_true, List.map_cons, List.map_nil, List.nil_append, List.cons_append, List.append_nil, List.all_cons, List.all_nil, Option.map_some, Option.bind_some, List.getElem?_cons_zero, List.getElem?_cons_succ, List.getD_cons_zero, List.getD_cons_succ, List.length_cons, List.length_nil, List.take_succ_cons, List.take_zero, List.take_nil, List.drop_succ_cons, List.drop_zero, List.drop_nil, ex_clo, btf, or_self, Bool.true_eq_false, Bool.false_eq_true, tab30, tab115, tab119, hN, pe, lk_impl_WidthEdge_impl_far, lk_impl_WidthEdge_impl_square_compare, sp_impl_far, sp_impl_square_compare, hX, hN', w1, s1, s2, d1, hw, hU1, hW1]
            exact ⟨i + 1, id, by simp only []; omega, by simp only []; omega, by simp only [if_neg hz1, hb1, hwp]; exact by simp [SLe, SLe0, convTm, convHp, convB, conv, conv0, convL, lkT, lkH, clean]⟩
          · have hI1 : I = ((bestW h i : Nat) : Int) := by rw [← hI, if_neg (by omega)]
            have hU1 : U = (wideP h (bestW h i)).1 := by rw [← hU, if_neg (by omega)]
            have hW1 : W = (wideP h (bestW h i)).2 := by rw [← hW, if_neg (by omega)]
            have d1 : decide (I < 0) = false := by rw [hI1]; exact decide_eq_false (by omega)
            have hbl := bestW_lt (h := h) (by omega) i hi
            have hst := bestW_succ (h := h) (i := i) hi0
            obtain ⟨⟨y1, y2⟩, y3, y4⟩ := wide_bd ho hnd (by omega) hbl
            rw [← hU1] at y1 y2
            rw [← hW1] at y3 y4
            have hwU : wideP h (bestW h i) = (U, W) := Prod.ext hU1.symm hW1.symm
            rw [hwp, hwU] at hst
            have hlt := sqC_lt (x := (X * X, N)) (y := (U, W)) x1 (by simp only; omega) y1 (by simp only; omega)
            cases c1 : ltF (X * X, N) (U, W) with
            | true =>
              rw [c1] at hlt
              rw [c1, if_pos rfl] at hst
              simp only [V_seq, V_ret, V_exit, V_region, V_draw, V_cond, brW_true, drawW, pairsOf, W_nil, W_cons, WD_nil, WD_cons, effOp2, effOp3, KN_seq, KN_block, KN_back, KXr_nil, KXe_nil, KXe_seq, KXe_block, KXe_back, QE, asB, effOp, effPure, effPick, effNew, effAlloc, effStore, effCall, giveUp, hasAll, skipE, pureV, pickV, storeV, binV, partV, loadV, faddrV, over, solid, buildL, IV.cells, ofC, strip, lkT, lkH, ISt.app, opI, gO, gB, allB, gval, wrapG, dstOK, setD, mentTm, mentHp, IV.ment, IV.mentL, oneI, lendV, lendP, lent, lentP, idsV, idsL, lkHS, flat, clean, callArgs, callFn, allLent, Gives, Ideal.Fin, conv, conv0, IBlk.shape, Op.operands, reduceIte, reduceCtorEq, cond_true, cond_false, Bool.or_false, Bool.and_true, Bool.not_true, Nat.reduceAdd, Nat.reduceLT, Nat.reduceLeDiff, Nat.reduceEqDiff, Nat.reduceBEq, Nat.add_zero, Nat.zero_add, ne_eq, not_false_eq_true, beq_self_eq_true, true_and, and_true, and_false, and_self, implies_true, forall_const, List.map_cons, List.map_nil, List.nil_append, List.cons_append, List.append_nil, List.all_cons, List.all_nil, Option.map_some, Option.bind_some, List.getElem?_cons_zero, List.getElem?_cons_succ, List.getD_cons_zero, List.getD_cons_succ, List.length_cons, List.length_nil, List.take_succ_cons, List.take_zero, List.take_nil, List.drop_succ_cons, List.drop_zero, List.drop_nil, ex_clo, or_self, Bool.false_eq_true, tab30, tab115, tab119, hN, pe, lk_impl_WidthEdge_impl_far, lk_impl_WidthEdge_impl_square_compare, sp_impl_far, sp_impl_square_compare, hX, hN', w1, s1, s2, d1, hw, hlt]
              refine ⟨⟨⟨⟨x1, by omega⟩, by omega, by omega⟩, ⟨y1, by omega⟩, by omega, by omega⟩, ?_⟩
              exact ⟨i + 1, id, by simp only []; omega, by simp only []; omega, by simp only [if_neg hz1, hst, hwp]; exact by simp [SLe, SLe0, convTm, convHp, convB, conv, conv0, convL, lkT, lkH, clean]⟩
            | false =>
              rw [c1] at hlt
              rw [c1, if_neg (by decide)] at hst
              simp only [V_seq, V_skip, V_ret, V_exit, V_region, V_cond, brW_false, W_nil, W_cons, effOp2, KN_seq, KN_block, KN_back, KXr_nil, KXe_nil, KXe_seq, KXe_block, KXe_back, QE, asB, effOp, effPure, effPick, effNew, effAlloc, effStore, effCall, giveUp, hasAll, skipE, pureV, pickV, storeV, binV, partV, loadV, faddrV, over, solid, buildL, IV.cells, ofC, strip, lkT, lkH, ISt.app, opI, gO, gB, allB, gval, wrapG, dstOK, setD, mentTm, mentHp, IV.ment, IV.mentL, oneI, lendV, lendP, lent, lentP, idsV, idsL, lkHS, flat, clean, callArgs, callFn, allLent, Gives, Ideal.Fin, conv, conv0, IBlk.shape, Op.operands, reduceIte, reduceCtorEq, cond_true, cond_false, Bool.or_false, Bool.and_true, Bool.not_true, Nat.reduceAdd, Nat.reduceLT, Nat.reduceLeDiff, Nat.reduceEqDiff, Nat.reduceBEq, Nat.add_zero, Nat.zero_add, ne_eq, not_false_eq_true, beq_self_eq_true, true_and, and_true, and_false, and_self, implies_true, forall_const, List.map_cons, List.map_nil, List.nil_append, List.cons_append, List.append_nil, List.all_cons, List.all_nil, Option.map_some, Option.bind_some, List.getElem?_cons_zero, List.getElem?_cons_succ, List.getD_cons_zero, List.getD_cons_succ, List.length_cons, List.length_nil, List.take_succ_cons, List.take_zero, List.take_nil, List.drop_succ_cons, List.drop_zero, List.drop_nil, ex_clo, or_self, Bool.false_eq_true, tab30, tab115, tab119, hN, pe, lk_impl_WidthEdge_impl_far, lk_impl_WidthEdge_impl_square_compare, sp_impl_far, sp_impl_square_compare, hX, hN', w1, s1, s2, d1, hw, hlt]
              refine ⟨⟨⟨⟨x1, by omega⟩, by omega, by omega⟩, ⟨y1, by omega⟩, by omega, by omega⟩, ?_⟩
              exact ⟨i + 1, id, by simp only []; omega, by simp only []; omega, by simp only [if_neg hz1, hst, hwU, hI1]; exact by simp [SLe, SLe0, convTm, convHp, convB, conv, conv0, convL, lkT, lkH, clean]⟩
      · have hie : i = h.length := by simp at hc; omega
        have hi0 : ¬ i = 0 := by omega
        have hv3 : widV l = ((bestW h i : Nat) : Int) := by rw [hv2, hie]
        simp only [if_neg hi0]
        simp only [V_seq, V_ret, V_exit, V_region, W_nil, W_cons, effOp2, KN_seq, KXr_nil, KXe_nil, KXe_seq, KXe_block, KXe_back, QE, effOp, effPure, pureV, strip, lkT, lkH, ISt.app, opI, gO, gB, allB, gval, wrapG, dstOK, setD, clean, Gives, Ideal.Fin, conv, conv0, Op.operands, reduceIte, Nat.reduceLT, Nat.reduceEqDiff, and_self, implies_true, List.nil_append, List.cons_append, hN, hv3]
def sp_impl_WidthEdge : PSpec := ⟨fun xs => match xs with | [.sl 2 les] => isPs les | _ => False, fun xs => match xs with | [.sl _ les] => (fun (l : List Pt) => .num .i64 (widV l)) (toPs les) | _ => .junk, false⟩
theorem gk_impl_WidthEdge : ∀ args, sp_impl_WidthEdge.pre args → ICall Try.prog 45 args (sp_impl_WidthEdge.val args) := by
  intro args h
  unfold sp_impl_WidthEdge at h ⊢; simp only at h ⊢; split at h
  · have h0 := h
    obtain ⟨l0, rfl⟩ := isP_ex h0
    simp only [toPs_enc] at *
    exact c_impl_WidthEdge _ 
  · exact h.elim
theorem en_impl_WidthEdge : Enters Try.prog 45 := enters_of Try.func45 (by kernel_rfl) rfl

def g_laws_FnExactWidthEdge : List (Nat × PSpec) := [(24, sp_laws_szPointS), (44, sp_spec_WidthEdge), (45, sp_impl_WidthEdge), (27, sp_laws_eqPointS)]
theorem gok_laws_FnExactWidthEdge : GOK Try.prog g_laws_FnExactWidthEdge := gok_cons gk_laws_szPointS en_laws_szPointS (gok_cons gk_spec_WidthEdge en_spec_WidthEdge (gok_cons gk_impl_WidthEdge en_impl_WidthEdge (gok_cons gk_laws_eqPointS en_laws_eqPointS (gok0))))
theorem lk_laws_FnExactWidthEdge_laws_szPointS : lkG g_laws_FnExactWidthEdge 24 = sp_laws_szPointS := rfl
theorem lk_laws_FnExactWidthEdge_spec_WidthEdge : lkG g_laws_FnExactWidthEdge 44 = sp_spec_WidthEdge := rfl
theorem lk_laws_FnExactWidthEdge_impl_WidthEdge : lkG g_laws_FnExactWidthEdge 45 = sp_impl_WidthEdge := rfl
theorem lk_laws_FnExactWidthEdge_laws_eqPointS : lkG g_laws_FnExactWidthEdge 27 = sp_laws_eqPointS := rfl
def h_laws_FnExactWidthEdge : List (Nat × HSpec) := [(25, hs_laws_toPointS)]
theorem hok_laws_FnExactWidthEdge : HOK Try.prog h_laws_FnExactWidthEdge := hok_cons hk_laws_toPointS en_laws_toPointS (hok0)
theorem lh_laws_FnExactWidthEdge_laws_szPointS : lkHS h_laws_FnExactWidthEdge 24 = none := rfl
theorem lh_laws_FnExactWidthEdge_spec_WidthEdge : lkHS h_laws_FnExactWidthEdge 44 = none := rfl
theorem lh_laws_FnExactWidthEdge_impl_WidthEdge : lkHS h_laws_FnExactWidthEdge 45 = none := rfl
theorem lh_laws_FnExactWidthEdge_laws_eqPointS : lkHS h_laws_FnExactWidthEdge 27 = none := rfl
theorem lh_laws_FnExactWidthEdge_laws_toPointS : lkHS h_laws_FnExactWidthEdge 25 = some hs_laws_toPointS := rfl
theorem c_laws_FnExactWidthEdge (l : List Pt)  : ICall Try.prog 9 [.sl 2 (encPs l)] (.bool true) := by
  refine icall_V (G := g_laws_FnExactWidthEdge) (H := h_laws_FnExactWidthEdge) [] tabOK mixed gok_laws_FnExactWidthEdge hok_laws_FnExactWidthEdge Try.func9 rfl Try.ntmps9 Try.results9 rfl (by kernel_rfl) fun F hN hlen => ?_
  have hl := hlen 0 2 _ rfl
  have el := len_encPs l
  rw [el] at hl
  by_cases c : l.length ≤ 1048576
  · have hv : szPointV l 1048576 = 1048576 - (l.length : Int) := if_neg (by omega)
    have d1 : decide (1048576 - (l.length : Int) < 0) = false := by simp only [decide_eq_false_iff_not]; omega
    have hs : ∀ x : List Pt, (x == x) = true := fun x => by simp
    have hn : ∀ x : Int, (x != x) = false := fun x => by simp
    simp only [V_seq, V_skip, V_ret, V_region, V_cond, brW_false, W_nil, W_cons, effOp2, KN_seq, KXr_nil, QE, asB, effOp, effPure, effCall, giveUp, hasAll, Option.isSome_some, skipE, pureV, binV, ofC, strip, lkT, lkH, ISt.app, opI, gO, gB, allB, gval, wrapG, dstOK, setD, mentTm, mentHp, IV.ment, lendV, lendP, lent, lentP, idsV, idsL, flat, clean, callArgs, callFn, allLent, enumT, Gives, Ideal.Fin, conv, conv0, IBlk.shape, Op.operands, reduceIte, reduceCtorEq, cond_true, cond_false, Bool.or_false, Bool.and_true, Bool.not_true, Bool.not_false, Nat.reduceAdd, Nat.reduceSub, Nat.reduceMul, Nat.reduceLT, Nat.reduceLeDiff, Nat.reduceEqDiff, Nat.reduceBEq, Nat.add_zero, Nat.zero_add, not_false_eq_true, beq_self_eq_true, true_and, and_true, and_false, and_self, implies_true, forall_const, List.map_cons, List.map_nil, List.nil_append, List.cons_append, List.append_nil, List.all_nil, Option.map_none, List.drop_zero, ex_clo, true_or, or_self, hN, isPs_enc, toPs_enc, SLe0, convTm, convHp, convB, sm, effH, mkHC0, mkHC1, lendM, lentM, lentI, allHere, addIds, flatIds, reach, posn, renV, renL, renB, renH, numB, subHp, fwd, bk, bwd, nones, keyOK, noSl, flatBs, List.contains, List.elem, Option.isSome_some, List.nodup_nil, List.nodup_cons, List.not_mem_nil, Option.getD_some, lk_laws_FnExactWidthEdge_laws_szPointS, lk_laws_FnExactWidthEdge_spec_WidthEdge, lk_laws_FnExactWidthEdge_impl_WidthEdge, lk_laws_FnExactWidthEdge_laws_eqPointS, sp_laws_szPointS, sp_spec_WidthEdge, sp_impl_WidthEdge, sp_laws_eqPointS, lh_laws_FnExactWidthEdge_laws_szPointS, lh_laws_FnExactWidthEdge_spec_WidthEdge, lh_laws_FnExactWidthEdge_impl_WidthEdge, lh_laws_FnExactWidthEdge_laws_eqPointS, lh_laws_FnExactWidthEdge_laws_toPointS, hs_laws_toPointS, el, hv, d1, c, take_encPs, hn]
    exact ⟨⟨by omega, by omega⟩, Nat.le_refl _⟩
  · have hv : szPointV l 1048576 = -1 := if_pos (by omega)
    have d1 : decide ((-1 : Int) < 0) = true := by decide
    simp only [V_seq, V_ret, V_region, V_cond, brW_true, W_nil, W_cons, effOp2, KN_seq, KXr_nil, KXr_seq, QE, asB, effOp, effPure, effCall, giveUp, hasAll, pureV, binV, ofC, strip, lkT, lkH, ISt.app, opI, gO, gB, allB, gval, wrapG, dstOK, setD, lendV, lendP, lent, lentP, idsV, idsL, flat, clean, callArgs, callFn, allLent, enumT, Gives, Ideal.Fin, conv, conv0, Op.operands, reduceIte, reduceCtorEq, cond_true, Bool.or_false, Bool.not_true, Nat.reduceLT, Nat.reduceEqDiff, true_and, and_true, and_self, implies_true, forall_const, List.map_cons, List.map_nil, List.nil_append, List.cons_append, List.append_nil, ex_clo, or_self, hN, isPs_enc, toPs_enc, lk_laws_FnExactWidthEdge_laws_szPointS, sp_laws_szPointS, lh_laws_FnExactWidthEdge_laws_szPointS, hv, d1]
    exact ⟨by omega, by omega⟩
def sp_laws_FnExactWidthEdge : PSpec := ⟨fun xs => match xs with | [.sl 2 les] => isPs les | _ => False, fun xs => match xs with | [.sl _ les] => (fun (l : List Pt) => .bool true) (toPs les) | _ => .junk, false⟩
theorem gk_laws_FnExactWidthEdge : ∀ args, sp_laws_FnExactWidthEdge.pre args → ICall Try.prog 9 args (sp_laws_FnExactWidthEdge.val args) := by
  intro args h
  unfold sp_laws_FnExactWidthEdge at h ⊢; simp only at h ⊢; split at h
  · have h0 := h
    obtain ⟨l0, rfl⟩ := isP_ex h0
    simp only [toPs_enc] at *
    exact c_laws_FnExactWidthEdge _ 
  · exact h.elim
theorem en_laws_FnExactWidthEdge : Enters Try.prog 9 := enters_of Try.func9 (by kernel_rfl) rfl

def g_spec_DrawWidthEdge : List (Nat × PSpec) := []
theorem gok_spec_DrawWidthEdge : GOK Try.prog g_spec_DrawWidthEdge := gok0
def h_spec_DrawWidthEdge : List (Nat × HSpec) := [(65, hs_spec_newReader), (64, hs_spec_anyPoints)]
theorem hok_spec_DrawWidthEdge : HOK Try.prog h_spec_DrawWidthEdge := hok_cons hk_spec_newReader en_spec_newReader (hok_cons hk_spec_anyPoints en_spec_anyPoints (hok0))
theorem lh_spec_DrawWidthEdge_spec_newReader : lkHS h_spec_DrawWidthEdge 65 = some hs_spec_newReader := rfl
theorem lh_spec_DrawWidthEdge_spec_anyPoints : lkHS h_spec_DrawWidthEdge 64 = some hs_spec_anyPoints := rfl
theorem c_spec_DrawWidthEdge (b : List Int) (hb : ∀ x ∈ b, 0 ≤ x ∧ x < 256) (hsz : b.length ≤ 1048576) : ICall Try.prog 46 [.sl 1 (encBy b)] (.sl 2 (encPs (drawPts b 9))) := by
  refine icall_V (G := g_spec_DrawWidthEdge) (H := h_spec_DrawWidthEdge) [] tabOK mixed gok_spec_DrawWidthEdge hok_spec_DrawWidthEdge Try.func46 rfl Try.ntmps46 Try.results46 rfl (by kernel_rfl) fun F hN hlen => ?_
  have hbt := bytes_take hb
  have hl := drawPts_len hb (show (0 : Int) ≤ 9 by omega) (by omega)
  have hd : (aPoints (b.take 2000) 0 9).1 = drawPts b 9 := rfl
  simp only [V_seq, V_ret, V_region, W_nil, W_cons, effOp2, KN_seq, KXr_nil, QE, effOp, effPure, Option.isSome_some, skipE, pureV, ofC, strip, lkT, lkH, ISt.app, opI, gO, gB, allB, gval, wrapG, dstOK, setD, mentTm, mentHp, IV.ment, IV.mentL, lendV, lendP, lent, lentP, idsV, idsL, clean, callArgs, callFn, enumT, Gives, Ideal.Fin, conv, conv0, convL, IBlk.shape, Op.operands, reduceIte, reduceCtorEq, cond_true, cond_false, Bool.or_false, Bool.and_true, Bool.and_false, Bool.not_false, Nat.reduceAdd, Nat.reduceSub, Nat.reduceMul, Nat.reduceLT, Nat.reduceLeDiff, Nat.reduceEqDiff, Nat.reduceBEq, Nat.add_zero, Nat.zero_add, ne_eq, not_false_eq_true, beq_self_eq_true, true_and, and_true, and_false, and_self, false_implies, implies_true, List.map_cons, List.map_nil, List.nil_append, List.cons_append, List.append_nil, List.all_nil, Option.some.injEq, Option.map_some, Option.map_none, List.getD_cons_zero, List.drop_zero, ex_clo, or_self, Bool.true_eq_false, Bool.false_eq_true, hN, Int.toNat_natCast, isBy_enc, toBy_enc, SLe0, convTm, convHp, convB, sm, effH, mkHC0, mkHC1, lendM, lentM, lentI, allHere, addIds, idsB, flatIds, reach, posn, renV, renL, renB, renH, numB, subHp, fwd, bk, bwd, nones, keyOK, noSl, noSlL, flatBs, List.contains, List.elem, Option.isSome_some, Option.isSome_none, List.nodup_nil, List.nodup_cons, List.not_mem_nil, List.mem_cons, or_false, Option.getD_some, lh_spec_DrawWidthEdge_spec_newReader, lh_spec_DrawWidthEdge_spec_anyPoints, hs_spec_newReader, hs_spec_anyPoints, rdr, hsz, hbt, hd]
  exact ⟨⟨⟨by omega, by omega⟩, take_eq_of rfl⟩, _, _, rfl, by rw [len_encPs]; exact Nat.le_refl _, (take_encPs _).symm⟩
def sp_spec_DrawWidthEdge : PSpec := ⟨fun xs => match xs with | [.sl 1 bes] => isBy bes ∧ ((fun (b : List Int) => ∀ x ∈ b, 0 ≤ x ∧ x < 256) (toIs bes)) ∧ ((fun (b : List Int) => b.length ≤ 1048576) (toIs bes)) | _ => False, fun xs => match xs with | [.sl _ bes] => (fun (b : List Int) => .sl 2 (encPs (drawPts b 9))) (toIs bes) | _ => .junk, false⟩
theorem gk_spec_DrawWidthEdge : ∀ args, sp_spec_DrawWidthEdge.pre args → ICall Try.prog 46 args (sp_spec_DrawWidthEdge.val args) := by
  intro args h
  unfold sp_spec_DrawWidthEdge at h ⊢; simp only at h ⊢; split at h
  · obtain ⟨h0, h1, h2⟩ := h
    obtain ⟨l0, rfl⟩ := isBy_ex h0
    simp only [toBy_enc] at *
    exact c_spec_DrawWidthEdge _ h1 h2
  · exact h.elim
theorem en_spec_DrawWidthEdge : Enters Try.prog 46 := enters_of Try.func46 (by kernel_rfl) rfl

theorem okPs_hull {l : List Pt} (h : okPs l = true) : okPs (hullP l) = true := by
  obtain ⟨h1, _, h2⟩ := hull_ok h
  unfold okPs
  rw [Bool.and_eq_true]
  exact ⟨List.all_eq_true.2 h1, decide_eq_true h2⟩
theorem okPs_rev {l : List Pt} (h : okPs l = true) : okPs l.reverse = true := by
  unfold okPs at *
  rw [Bool.and_eq_true] at *
  refine ⟨?_, by rw [List.length_reverse]; exact h.2⟩
  rw [List.all_reverse]; exact h.1
def g_laws_FnWidthEdge : List (Nat × PSpec) := [(46, sp_spec_DrawWidthEdge), (45, sp_impl_WidthEdge), (44, sp_spec_WidthEdge), (36, sp_impl_Hull), (47, sp_laws_backwards)]
theorem gok_laws_FnWidthEdge : GOK Try.prog g_laws_FnWidthEdge := gok_cons gk_spec_DrawWidthEdge en_spec_DrawWidthEdge (gok_cons gk_impl_WidthEdge en_impl_WidthEdge (gok_cons gk_spec_WidthEdge en_spec_WidthEdge (gok_cons gk_impl_Hull en_impl_Hull (gok_cons gk_laws_backwards en_laws_backwards (gok0)))))
theorem lk_laws_FnWidthEdge_spec_DrawWidthEdge : lkG g_laws_FnWidthEdge 46 = sp_spec_DrawWidthEdge := rfl
theorem lk_laws_FnWidthEdge_impl_WidthEdge : lkG g_laws_FnWidthEdge 45 = sp_impl_WidthEdge := rfl
theorem lk_laws_FnWidthEdge_spec_WidthEdge : lkG g_laws_FnWidthEdge 44 = sp_spec_WidthEdge := rfl
theorem lk_laws_FnWidthEdge_impl_Hull : lkG g_laws_FnWidthEdge 36 = sp_impl_Hull := rfl
theorem lk_laws_FnWidthEdge_laws_backwards : lkG g_laws_FnWidthEdge 47 = sp_laws_backwards := rfl
def h_laws_FnWidthEdge : List (Nat × HSpec) := []
theorem hok_laws_FnWidthEdge : HOK Try.prog h_laws_FnWidthEdge := hok0
theorem c_laws_FnWidthEdge (b : List Int) (hb : ∀ x ∈ b, 0 ≤ x ∧ x < 256) : ICall Try.prog 10 [.sl 1 (encBy b)] (.bool true) := by
  refine icall_V (G := g_laws_FnWidthEdge) (H := []) [] tabOK mixed gok_laws_FnWidthEdge hok_laws_FnWidthEdge Try.func10 rfl Try.ntmps10 Try.results10 rfl (by kernel_rfl) fun F hN hlen => ?_
  have el := len_encBy b
  have nn : ∀ x : Int, (x != x) = false := fun x => by simp
  have ee : ∀ x : Int, (x == x) = true := fun x => by simp
  simp only [V_seq, V_region, V_cond, W_nil, W_cons, effOp2, KN_seq, asB, effOp, effPure, pureV, binV, lenV, ofC, strip, lkT, ISt.app, opI, gO, gB, allB, gval, wrapG, dstOK, setD, enumT, Op.operands, Call.operands, List.append_toArray, reduceIte, reduceCtorEq, Nat.reduceLT, Nat.reduceEqDiff, ne_eq, not_false_eq_true, true_and, and_self, implies_true, List.nil_append, List.cons_append, List.append_nil, tab22, hN, el]
  refine brW_some (fun h => ?_) (fun h => ?_)
  · simp only [V_seq, V_ret, V_region, W_nil, W_cons, effOp2, KN_seq, KXr_nil, KXr_seq, QE, effOp, effPure, pureV, ofC, strip, lkT, lkH, ISt.app, opI, gO, gB, allB, gval, wrapG, dstOK, setD, clean, Gives, Ideal.Fin, conv, conv0, Op.operands, reduceIte, reduceCtorEq, Nat.reduceLT, Nat.reduceEqDiff, and_self, implies_true, List.nil_append, List.cons_append, List.append_nil, hN]
  · have hsz : b.length ≤ 1048576 := by simp at h; omega
    obtain ⟨l, hl⟩ : ∃ l, drawPts b 9 = l := ⟨_, rfl⟩
    have elp := len_encPs l
    cases d0 : decide (widV l < 0) with
    | true =>
      simp only [V_seq, V_skip, V_ret, V_region, V_cond, brW_true, W_nil, W_cons, effOp2, KN_seq, KXr_nil, KXr_seq, QE, asB, effOp, effPure, effPick, effCall, giveUp, hasAll, pureV, pickV, binV, ofC, strip, lkT, lkH, ISt.app, opI, gO, gB, allB, gval, wrapG, dstOK, setD, lendV, lendP, lent, lentP, idsV, idsL, lkHS, flat, clean, callArgs, callFn, allLent, Gives, Ideal.Fin, conv, conv0, Op.operands, reduceIte, reduceCtorEq, cond_true, cond_false, Bool.or_false, Bool.not_true, Nat.reduceLT, Nat.reduceEqDiff, beq_self_eq_true, true_and, and_true, and_self, implies_true, forall_const, List.map_cons, List.map_nil, List.nil_append, List.cons_append, List.append_nil, Option.bind_some, List.getElem?_cons_zero, List.getElem?_cons_succ, ex_clo, or_true, or_self, Bool.false_eq_true, hN, isPs_enc, toPs_enc, isBy_enc, toBy_enc, lk_laws_FnWidthEdge_spec_DrawWidthEdge, lk_laws_FnWidthEdge_impl_WidthEdge, lk_laws_FnWidthEdge_spec_WidthEdge, sp_spec_DrawWidthEdge, sp_impl_WidthEdge, sp_spec_WidthEdge, hsz, hl, nn, d0]
      exact hb
    | false =>
      have h0 := of_decide_eq_false d0
      have hk : okPs l = true := by
        cases hk : okPs l with
        | true => rfl
        | false => exact absurd (show widV l < 0 by rw [widV, hk, if_neg (by decide)]; decide) h0
      have hlen := okPs_len hk
      have hv : widV l = widthP (hullP l) := by rw [widV, hk]; rfl
      have hv2 : widV (hullP l) = widV l := by rw [hv, widV, okPs_hull hk, hullP_idem]; rfl
      have hv3 : widV l.reverse = widV l := by rw [hv, widV, okPs_rev hk, hullP_rev]; rfl
      have h3 : ¬ (hullP l).length < 3 := by
        intro c
        rw [hv, widthP, if_pos c] at h0; exact h0 (by decide)
      have hlt : decide (widV l < (((hullP l).length : Nat) : Int)) = true := by
        have := bestW_lt (h := hullP l) (by omega) _ (Nat.le_refl _)
        rw [hv, widthP, if_neg h3]
        exact decide_eq_true (by omega)
      obtain ⟨H, hH⟩ : ∃ H, hullP l = H := ⟨_, rfl⟩
      have hif : (if okPs l = true then H else []) = H := if_pos hk
      rw [hH] at hv2 hlt
      have eH := len_encPs H
      obtain ⟨w, hw⟩ : ∃ w, widV l = w := ⟨_, rfl⟩
      rw [hw] at hv2 hv3 hlt d0
      have hrl : l.length ≤ 1000000 := by omega
      simp only [V_seq, V_skip, V_ret, V_region, V_cond, brW_false, W_nil, W_cons, effOp2, KN_seq, KXr_nil, QE, asB, effOp, effPure, effPick, effCall, giveUp, hasAll, pureV, pickV, binV, lenV, ofC, strip, lkT, lkH, ISt.app, opI, gO, gB, allB, gval, wrapG, dstOK, setD, lendV, lendP, lent, lentP, idsV, idsL, lkHS, flat, clean, callArgs, callFn, allLent, Gives, Ideal.Fin, conv, conv0, Op.operands, Call.operands, List.append_toArray, reduceIte, reduceCtorEq, cond_true, cond_false, Bool.or_false, Bool.not_true, Nat.reduceLT, Nat.reduceEqDiff, ne_eq, not_false_eq_true, beq_self_eq_true, true_and, and_true, and_self, implies_true, forall_const, List.map_cons, List.map_nil, List.nil_append, List.cons_append, List.append_nil, Option.bind_some, List.getElem?_cons_zero, List.getElem?_cons_succ, ex_clo, or_true, or_self, Bool.true_eq_false, Bool.false_eq_true, tab23, hN, isPs_enc, toPs_enc, isBy_enc, toBy_enc, lk_laws_FnWidthEdge_spec_DrawWidthEdge, lk_laws_FnWidthEdge_impl_WidthEdge, lk_laws_FnWidthEdge_spec_WidthEdge, lk_laws_FnWidthEdge_impl_Hull, lk_laws_FnWidthEdge_laws_backwards, sp_spec_DrawWidthEdge, sp_impl_WidthEdge, sp_spec_WidthEdge, sp_impl_Hull, sp_laws_backwards, hsz, hl, nn, hk, hH, hw, eH, hv2, hv3, hlt, d0, hrl]
      exact hb
def sp_laws_FnWidthEdge : PSpec := ⟨fun xs => match xs with | [.sl 1 bes] => isBy bes ∧ ((fun (b : List Int) => ∀ x ∈ b, 0 ≤ x ∧ x < 256) (toIs bes)) | _ => False, fun xs => match xs with | [.sl _ bes] => (fun (b : List Int) => .bool true) (toIs bes) | _ => .junk, false⟩
theorem gk_laws_FnWidthEdge : ∀ args, sp_laws_FnWidthEdge.pre args → ICall Try.prog 10 args (sp_laws_FnWidthEdge.val args) := by
  intro args h
  unfold sp_laws_FnWidthEdge at h ⊢; simp only at h ⊢; split at h
  · obtain ⟨h0, h1⟩ := h
    obtain ⟨l0, rfl⟩ := isBy_ex h0
    simp only [toBy_enc] at *
    exact c_laws_FnWidthEdge _ h1
  · exact h.elim
theorem en_laws_FnWidthEdge : Enters Try.prog 10 := enters_of Try.func10 (by kernel_rfl) rfl

end Go.Proofs.Ytlifmigihfancaa
