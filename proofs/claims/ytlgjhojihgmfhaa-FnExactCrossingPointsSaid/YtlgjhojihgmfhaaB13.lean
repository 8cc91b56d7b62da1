/- The law on extreme points: the walk. -/
import Derived.Test.YtlgjhojihgmfhaaB11
import Derived.Test.YtlgjhojihgmfhaaB7
set_option linter.unusedVariables false
set_option linter.unusedSimpArgs false
namespace Go.Proofs.Ytlgjhojihgmfhaa
open Go Go.Ideal Go.Pl Go.Sort

def dotP (p q : Pt) : Int := p.1 * q.1 + p.2 * q.2
theorem dotP_lin (p q : Pt) : dotP p q = lin q.1 q.2 p := by unfold dotP lin; grind
theorem sm_mul {x y : Int} (hx : sm1 x) (hy : sm1 y) : -10000000000 ≤ x * y ∧ x * y ≤ 10000000000 := by
  have := mulb (A := 100000) (B := 100000) (by unfold sm1 at hx; omega) (by unfold sm1 at hy; omega)
  omega
/-- Numbers whose products have room. -/
def Sm9 (p : Pt) : Prop := (-1000000000 ≤ p.1 ∧ p.1 ≤ 1000000000) ∧ (-1000000000 ≤ p.2 ∧ p.2 ≤ 1000000000)
theorem Sm.nine {p : Pt} (h : Sm p) : Sm9 p := by unfold Sm sm1 at h; unfold Sm9; omega
theorem Sm.way {p q : Pt} (h : Sm p) (k : Sm q) : Sm9 (wayP p q) := by unfold Sm sm1 at h k; unfold Sm9 wayP; simp only []; omega
def g_impl_Point_dot : List (Nat × PSpec) := []
theorem gok_impl_Point_dot : GOK Try.prog g_impl_Point_dot := gok0
def h_impl_Point_dot : List (Nat × HSpec) := []
theorem hok_impl_Point_dot : HOK Try.prog h_impl_Point_dot := hok0
theorem c_impl_Point_dot (p : Pt) (q : Pt) (hp : Sm9 p) (hq : Sm9 q) : ICall Try.prog 194 [encP p, encP q] (.num .i64 (dotP p q)) := by
  refine icall_V (G := g_impl_Point_dot) (H := []) [] tabOK mixed gok_impl_Point_dot hok_impl_Point_dot Try.func194 rfl Try.ntmps194 Try.results194 rfl (by kernel_rfl) fun F hN hlen => ?_
  have h1 := mulb hp.1 hq.1
  have h2 := mulb hp.2 hq.2
  have w1 : IntKind.i64.wrap (p.1 * q.1) = p.1 * q.1 := wr (by omega) (by omega)
  have w2 : IntKind.i64.wrap (p.2 * q.2) = p.2 * q.2 := wr (by omega) (by omega)
  have w3 : IntKind.i64.wrap (p.1 * q.1 + p.2 * q.2) = p.1 * q.1 + p.2 * q.2 := wr (by omega) (by omega)
  simp only [V_seq, V_ret, V_region, W_nil, W_cons, effOp2, KN_seq, KXr_nil, QE, effOp, effPure, effNew, effBox, skipE, pureV, binV, partV, loadV, faddrV, solid, IV.cells, ofC, strip, lkT, lkH, ISt.app, opI, gO, gB, allB, gval, wrapG, dstOK, setD, mentTm, mentHp, IV.ment, IV.mentL, oneI, clean, enumT, Gives, Ideal.Fin, conv, conv0, IBlk.shape, Op.operands, reduceIte, reduceCtorEq, cond_true, Bool.or_false, Bool.and_true, Nat.reduceAdd, Nat.reduceLT, Nat.reduceLeDiff, Nat.reduceEqDiff, Nat.reduceBEq, Nat.add_zero, Nat.zero_add, and_self, implies_true, List.nil_append, List.cons_append, List.append_nil, List.all_cons, List.all_nil, Option.map_some, List.getD_cons_zero, List.getD_cons_succ, List.length_cons, List.length_nil, List.take_succ_cons, List.take_zero, List.take_nil, List.drop_succ_cons, List.drop_zero, tab3, tab35, hN, encP, w1, w2, w3, dotP]
def sp_impl_Point_dot : PSpec := ⟨fun xs => match xs with | [.agg [.num .i64 p1, .num .i64 p2], .agg [.num .i64 q1, .num .i64 q2]] => ((fun (p : Pt) (q : Pt) => Sm9 p) (p1, p2) (q1, q2)) ∧ ((fun (p : Pt) (q : Pt) => Sm9 q) (p1, p2) (q1, q2)) | _ => False, fun xs => match xs with | [.agg [.num _ p1, .num _ p2], .agg [.num _ q1, .num _ q2]] => (fun (p : Pt) (q : Pt) => .num .i64 (dotP p q)) (p1, p2) (q1, q2) | _ => .junk, false⟩
theorem gk_impl_Point_dot : ∀ args, sp_impl_Point_dot.pre args → ICall Try.prog 194 args (sp_impl_Point_dot.val args) := by
  intro args h
  unfold sp_impl_Point_dot at h ⊢; simp only at h ⊢; split at h
  · obtain ⟨h0, h1⟩ := h
    simp only [toPs_enc] at *
    exact c_impl_Point_dot (_, _) (_, _) h0 h1
  · exact h.elim
theorem en_impl_Point_dot : Enters Try.prog 194 := enters_of Try.func194 (by kernel_rfl) rfl


/-- The first of the farthest among the first n. -/
def farI (l : List Pt) (d : Pt) : Nat → Nat
  | 0 => 0
  | n + 1 => if dotP (pAt l (farI l d n)) d < dotP (pAt l n) d then n else farI l d n
theorem farI_lt (l : List Pt) (d : Pt) : ∀ n, 0 < n → farI l d n < n
  | 1, _ => by simp [farI]
  | n + 2, _ => by
    have := farI_lt l d (n + 1) (by omega)
    rw [farI]; split <;> omega
theorem farI_le (l : List Pt) (d : Pt) (n : Nat) : farI l d n ≤ n := by
  rcases Nat.eq_zero_or_pos n with rfl | h
  · simp [farI]
  · exact Nat.le_of_lt (farI_lt l d n h)
theorem farI_max (l : List Pt) (d : Pt) : ∀ n i, i < n → dotP (pAt l i) d ≤ dotP (pAt l (farI l d n)) d
  | n + 1, i, hi => by
    rw [farI]
    split
    · rename_i h
      rcases Nat.lt_or_ge i n with h1 | h1
      · have := farI_max l d n i h1; omega
      · rw [show i = n by omega]; exact Int.le_refl _
    · rename_i h
      rcases Nat.lt_or_ge i n with h1 | h1
      · exact farI_max l d n i h1
      · rw [show i = n by omega]; omega



/-- Where the farthest point stands; nowhere when something is not in order. -/
def extI (l : List Pt) (d : Pt) : Int := if okPs l = true ∧ 0 < l.length ∧ okP d = true then (farI l d l.length : Int) else -1


def g_spec_reader_one : List (Nat × PSpec) := []
theorem gok_spec_reader_one : GOK Try.prog g_spec_reader_one := gok0
def h_spec_reader_one : List (Nat × HSpec) := [(181, hs_spec_reader_pick)]
theorem hok_spec_reader_one : HOK Try.prog h_spec_reader_one := hok_cons hk_spec_reader_pick en_spec_reader_pick (hok0)
theorem lh_spec_reader_one_spec_reader_pick : lkHS h_spec_reader_one 181 = some hs_spec_reader_pick := rfl
theorem c_spec_reader_one (b : List Int) (p : Nat) (L : List Int) (full : Bool) (hb : BytesOK b) (hp : p ≤ 900000) (h0 : 0 < L.length) (h1 : L.length ≤ 1000) : HCall Try.prog 183 [.ptr 1000 0, .ref 1001 0 L.length full] (sm ([(1000, rdr b p), (1001, .arr 1 3 (encI L))])) (.num .i64 (L.getD (pickI b p L.length).toNat 0)) (sm ([(1000, rdr b (p + 1)), (1001, .arr 1 3 (encI L))])) := by
  refine hcall_V (G := g_spec_reader_one) (H := h_spec_reader_one) [] tabOK mixed gok_spec_reader_one hok_spec_reader_one Try.func183 rfl Try.ntmps183 Try.results183 rfl (by kernel_rfl) fun F hN hlen => ?_
  simp only [sm]
  have eL : (encI L).length = L.length := len_encI L
  have pk := pick_nonneg hb (show p ≤ 1000000000 by omega) L.length
  have hlt := pk.2.1 (by omega)
  obtain ⟨k, hk⟩ : ∃ k : Nat, pickI b p L.length = k := ⟨(pickI b p L.length).toNat, by omega⟩
  have g := getD_encI (l := L) (i := k) (by omega)
  have hpl : p ≤ 1000000 := by omega
  have hnn : ((L.length : Nat) : Int) ≤ 1000000 := by omega
  simp only [V_seq, V_ret, V_region, W_nil, W_cons, effOp2, KN_seq, KXr_nil, QE, effOp, effPure, Option.isSome_some, skipE, pureV, eltV, loadV, iaddrV, lenV, ofC, strip, lkT, lkH, ISt.app, opI, gO, gB, allB, gval, wrapG, dstOK, setD, mentTm, mentHp, IV.ment, IV.mentL, idsV, idsL, clean, callArgs, callFn, enumT, conv, conv0, convL, IBlk.shape, Op.operands, Call.operands, List.append_toArray, reduceIte, reduceCtorEq, cond_true, cond_false, Bool.or_false, Bool.or_true, Bool.and_true, Nat.reduceAdd, Nat.reduceSub, Nat.reduceMul, Nat.reduceLT, Nat.reduceLeDiff, Nat.reduceEqDiff, Nat.reduceBEq, Nat.zero_add, ne_eq, not_false_eq_true, beq_self_eq_true, true_and, and_true, and_false, and_self, false_implies, implies_true, forall_const, List.map_cons, List.map_nil, List.nil_append, List.cons_append, List.append_nil, List.all_nil, Option.map_some, List.getD_cons_zero, ex_clo, Bool.true_eq_false, Bool.false_eq_true, tab3, tab62, hN, Int.toNat_natCast, isBy_enc, toBy_enc, FinH, resA, resV, SLe, SLe0, convTm, convHp, convB, sm, effH, mkHC0, mkHC1, lendM, lentM, lentI, allHere, addIds, idsB, flatIds, reach, posn, renV, renL, renB, renH, numB, subHp, fwd, bk, bwd, nones, keyOK, noSl, noSlL, flatBs, List.contains, List.elem, Option.isSome_some, List.nodup_nil, List.nodup_cons, List.not_mem_nil, List.mem_cons, or_false, Option.getD_some, lh_spec_reader_one_spec_reader_pick, hs_spec_reader_pick, rdr, hb, hpl, hnn, eL, hk, g]
  repeat refine And.intro (by first | omega | (simp; done) | (simp; omega)) ?_
  exact ⟨id, by simp [convL, conv, conv0, clean]⟩
def hs_spec_reader_one : HSpec := ⟨[false, false], fun xs hp => match xs, hp with | [.ptr 1000 0, .ref 1001 0 n full], [(1000, .box ty [.sl 1 es, .num .i64 pz]), (1001, .arr 1 ty2 ls)] => (isBy es) ∧ (isIs ls) ∧ (ty = 168) ∧ (pz = (pz.toNat : Int)) ∧ (n = ls.length) ∧ (ty2 = 3) ∧ ((fun (b : List Int) (p : Nat) (L : List Int) (full : Bool) => BytesOK b) (toIs es) pz.toNat (toIs ls) full) ∧ ((fun (b : List Int) (p : Nat) (L : List Int) (full : Bool) => p ≤ 900000) (toIs es) pz.toNat (toIs ls) full) ∧ ((fun (b : List Int) (p : Nat) (L : List Int) (full : Bool) => 0 < L.length) (toIs es) pz.toNat (toIs ls) full) ∧ ((fun (b : List Int) (p : Nat) (L : List Int) (full : Bool) => L.length ≤ 1000) (toIs es) pz.toNat (toIs ls) full) | _, _ => False, fun xs hp => match xs, hp with | [.ptr 1000 0, .ref 1001 0 n full], [(1000, .box ty [.sl 1 es, .num .i64 pz]), (1001, .arr 1 ty2 ls)] => (fun (b : List Int) (p : Nat) (L : List Int) (full : Bool) => (.num .i64 (L.getD (pickI b p L.length).toNat 0) : IV)) (toIs es) pz.toNat (toIs ls) full | _, _ => .junk, fun xs hp => match xs, hp with | [.ptr 1000 0, .ref 1001 0 n full], [(1000, .box ty [.sl 1 es, .num .i64 pz]), (1001, .arr 1 ty2 ls)] => (fun (b : List Int) (p : Nat) (L : List Int) (full : Bool) => ([(1000, rdr b (p + 1)), (1001, .arr 1 3 (encI L))] : List (Nat × IBlk))) (toIs es) pz.toNat (toIs ls) full | _, _ => []⟩
theorem hk_spec_reader_one : ∀ args hp, hs_spec_reader_one.pre args hp → HCall Try.prog 183 args (sm hp) (hs_spec_reader_one.val args hp) (sm (hs_spec_reader_one.hval args hp)) := by
  intro args hp h
  unfold hs_spec_reader_one at h ⊢; simp only at h ⊢; split at h
  · obtain ⟨h1, h2, rfl, h3, rfl, rfl, h4, h5, h6, h7⟩ := h; obtain ⟨l, rfl⟩ := isBy_ex h1; obtain ⟨m, rfl⟩ := isI_ex h2; rw [toBy_enc] at *; rw [toIs_enc] at *; rw [h3, len_encI]; exact c_spec_reader_one l _ m _ h4 (by simpa using h5) h6 h7
  · exact h.elim
theorem en_spec_reader_one : Enters Try.prog 183 := enters_of Try.func183 (by kernel_rfl) rfl


def badI (b : List Int) (p : Nat) : Int := [1001, -1001, 1000, -1000].getD (pickI b p 4).toNat 0
def aPoint (b : List Int) (p : Nat) : Pt × Nat :=
  if pickI b (p + 2) 16 = 0 then ((badI b (p + 3), (rPoint b p).2), p + 4)
  else if pickI b (p + 2) 16 = 1 then (((rPoint b p).1, badI b (p + 3)), p + 4)
  else (rPoint b p, p + 3)

def g_spec_anyPoint : List (Nat × PSpec) := []
theorem gok_spec_anyPoint : GOK Try.prog g_spec_anyPoint := gok0
def h_spec_anyPoint : List (Nat × HSpec) := [(198, hs_spec_randomPoint), (181, hs_spec_reader_pick), (183, hs_spec_reader_one)]
theorem hok_spec_anyPoint : HOK Try.prog h_spec_anyPoint := hok_cons hk_spec_randomPoint en_spec_randomPoint (hok_cons hk_spec_reader_pick en_spec_reader_pick (hok_cons hk_spec_reader_one en_spec_reader_one (hok0)))
theorem lh_spec_anyPoint_spec_randomPoint : lkHS h_spec_anyPoint 198 = some hs_spec_randomPoint := rfl
theorem lh_spec_anyPoint_spec_reader_pick : lkHS h_spec_anyPoint 181 = some hs_spec_reader_pick := rfl
theorem lh_spec_anyPoint_spec_reader_one : lkHS h_spec_anyPoint 183 = some hs_spec_reader_one := rfl
theorem c_spec_anyPoint (b : List Int) (p : Nat) (hb : BytesOK b) (hp : p ≤ 800000) : HCall Try.prog 160 [.ptr 1000 0] (sm ([(1000, rdr b p)])) (encP (aPoint b p).1) (sm ([(1000, rdr b (aPoint b p).2)])) := by
  refine hcall_V (G := g_spec_anyPoint) (H := h_spec_anyPoint) [] tabOK mixed gok_spec_anyPoint hok_spec_anyPoint Try.func160 rfl Try.ntmps160 Try.results160 rfl (by kernel_rfl) fun F hN hlen => ?_
  simp only [sm]
  have hp1 : p ≤ 900000 := by omega
  have hp2 : p + 2 ≤ 1000000 := by omega
  have hp3 : p + 2 + 1 ≤ 900000 := by omega
  by_cases c0 : pickI b (p + 2) 16 = 0
  · have d1 : (pickI b (p + 2) 16 == 0) = true := by simpa using c0
    have hA : aPoint b p = ((badI b (p + 3), (rPoint b p).2), p + 4) := by rw [aPoint, if_pos c0]
    have hbd : [1001, -1001, 1000, -1000].getD (pickI b (p + 2 + 1) 4).toNat 0 = badI b (p + 3) := rfl
    simp only [V_seq, V_ret, V_block, V_region, V_cond, brW_true, W_nil, W_cons, effOp2, KN_seq, KN_block, KXr_nil, QE, asB, effOp, effPure, effNew, effAlloc, effBuildSlice, effFrz, frz, tmpsOf, effStore, Option.isSome_some, skipE, pureV, storeV, binV, partV, loadV, faddrV, over, solid, IV.cells, ofC, strip, lkT, lkH, ISt.app, opI, gO, gB, allB, gval, wrapG, dstOK, setD, mentTm, mentHp, IV.ment, IV.mentL, partsL, eltsI, eltI, oneI, noId', idsV, idsL, clean, callArgs, callFn, enumT, conv, conv0, convL, IBlk.shape, Op.operands, reduceIte, reduceCtorEq, cond_true, cond_false, Bool.or_false, Bool.or_true, Bool.and_true, Bool.false_and, Nat.reduceAdd, Nat.reduceSub, Nat.reduceMul, Nat.reduceLT, Nat.reduceLeDiff, Nat.reduceEqDiff, Nat.reduceBEq, Nat.add_zero, Nat.zero_add, ne_eq, not_false_eq_true, beq_self_eq_true, true_and, and_true, and_false, and_self, false_implies, implies_true, List.map_cons, List.map_nil, List.nil_append, List.cons_append, List.append_nil, List.all_cons, List.all_nil, Option.map_some, List.getD_cons_zero, List.getD_cons_succ, List.length_cons, List.length_nil, List.take_succ_cons, List.take_zero, List.take_nil, List.drop_succ_cons, List.drop_zero, List.drop_nil, ex_clo, or_self, Bool.true_eq_false, Bool.false_eq_true, tab3, tab35, tab62, hN, Int.toNat_natCast, encP, isBy_enc, toBy_enc, isIs_nil, toIs_nil, isIs_cons, toIs_cons, FinH, resA, resV, SLe, SLe0, convTm, convHp, convB, sm, effH, mkHC0, mkHC1, lendM, lentM, lentI, allHere, addIds, idsB, flatIds, reach, posn, renV, renL, renB, renH, numB, subHp, fwd, bk, bwd, nones, keyOK, noSl, noSlL, flatBs, List.contains, List.elem, Option.isSome_some, List.nodup_nil, List.nodup_cons, List.not_mem_nil, List.mem_cons, or_false, Option.getD_some, lh_spec_anyPoint_spec_randomPoint, lh_spec_anyPoint_spec_reader_pick, lh_spec_anyPoint_spec_reader_one, hs_spec_randomPoint, hs_spec_reader_pick, hs_spec_reader_one, rdr, hb, hp1, hp2, hp3, d1, hA]
    exact ⟨by omega, List.take_length.symm, id, by simp [convL, conv, conv0, clean, badI]; omega⟩
  · have d1 : (pickI b (p + 2) 16 == 0) = false := by simpa using c0
    by_cases c1 : pickI b (p + 2) 16 = 1
    · have d2 : (pickI b (p + 2) 16 == 1) = true := by simpa using c1
      have hA : aPoint b p = (((rPoint b p).1, badI b (p + 3)), p + 4) := by rw [aPoint, if_neg c0, if_pos c1]
      have hbd : [1001, -1001, 1000, -1000].getD (pickI b (p + 2 + 1) 4).toNat 0 = badI b (p + 3) := rfl
      simp only [V_seq, V_ret, V_block, V_region, V_cond, brW_true, brW_false, W_nil, W_cons, effOp2, KN_seq, KN_block, KXr_nil, QE, asB, effOp, effPure, effNew, effAlloc, effBuildSlice, effFrz, frz, tmpsOf, effStore, Option.isSome_some, skipE, pureV, storeV, binV, partV, loadV, faddrV, over, solid, IV.cells, ofC, strip, lkT, lkH, ISt.app, opI, gO, gB, allB, gval, wrapG, dstOK, setD, mentTm, mentHp, IV.ment, IV.mentL, partsL, eltsI, eltI, oneI, noId', idsV, idsL, clean, callArgs, callFn, enumT, conv, conv0, convL, IBlk.shape, Op.operands, reduceIte, reduceCtorEq, cond_true, cond_false, Bool.or_false, Bool.or_true, Bool.and_true, Bool.false_and, Nat.reduceAdd, Nat.reduceSub, Nat.reduceMul, Nat.reduceLT, Nat.reduceLeDiff, Nat.reduceEqDiff, Nat.reduceBEq, Nat.zero_add, ne_eq, not_false_eq_true, beq_self_eq_true, true_and, and_true, and_false, and_self, false_implies, implies_true, List.map_cons, List.map_nil, List.nil_append, List.cons_append, List.append_nil, List.all_cons, List.all_nil, Option.map_some, List.getD_cons_zero, List.getD_cons_succ, List.length_cons, List.length_nil, List.take_succ_cons, List.take_zero, List.take_nil, List.drop_succ_cons, List.drop_zero, List.drop_nil, ex_clo, or_self, Bool.true_eq_false, Bool.false_eq_true, tab3, tab35, tab62, hN, Int.toNat_natCast, encP, isBy_enc, toBy_enc, isIs_nil, toIs_nil, isIs_cons, toIs_cons, FinH, resA, resV, SLe, SLe0, convTm, convHp, convB, sm, effH, mkHC0, mkHC1, lendM, lentM, lentI, allHere, addIds, idsB, flatIds, reach, posn, renV, renL, renB, renH, numB, subHp, fwd, bk, bwd, nones, keyOK, noSl, noSlL, flatBs, List.contains, List.elem, Option.isSome_some, List.nodup_nil, List.nodup_cons, List.not_mem_nil, List.mem_cons, or_false, Option.getD_some, lh_spec_anyPoint_spec_randomPoint, lh_spec_anyPoint_spec_reader_pick, lh_spec_anyPoint_spec_reader_one, hs_spec_randomPoint, hs_spec_reader_pick, hs_spec_reader_one, rdr, hb, hp1, hp2, hp3, d1, d2, hA]
      exact ⟨by omega, List.take_length.symm, id, by simp [convL, conv, conv0, clean, badI]; omega⟩
    · have d2 : (pickI b (p + 2) 16 == 1) = false := by simpa using c1
      have hA : aPoint b p = (rPoint b p, p + 3) := by rw [aPoint, if_neg c0, if_neg c1]
      simp only [V_seq, V_skip, V_ret, V_block, V_region, V_cond, brW_false, W_nil, W_cons, effOp2, KN_seq, KN_block, KXr_nil, QE, asB, effOp, effPure, effNew, effAlloc, effStore, Option.isSome_some, skipE, pureV, storeV, binV, partV, loadV, over, solid, IV.cells, ofC, strip, lkT, lkH, ISt.app, opI, gO, gB, allB, gval, wrapG, dstOK, setD, mentTm, mentHp, IV.ment, IV.mentL, oneI, idsV, idsL, clean, callArgs, callFn, enumT, conv, conv0, convL, IBlk.shape, Op.operands, reduceIte, reduceCtorEq, cond_true, cond_false, Bool.or_false, Bool.or_true, Bool.and_true, Nat.reduceAdd, Nat.reduceSub, Nat.reduceMul, Nat.reduceLT, Nat.reduceLeDiff, Nat.reduceEqDiff, Nat.reduceBEq, Nat.zero_add, not_false_eq_true, beq_self_eq_true, true_and, and_true, and_false, and_self, false_implies, implies_true, List.map_cons, List.map_nil, List.nil_append, List.cons_append, List.append_nil, List.all_cons, List.all_nil, Option.map_some, List.getD_cons_zero, List.length_cons, List.length_nil, List.take_succ_cons, List.take_zero, List.take_nil, List.drop_succ_cons, List.drop_zero, List.drop_nil, ex_clo, Bool.true_eq_false, Bool.false_eq_true, tab35, hN, Int.toNat_natCast, encP, isBy_enc, toBy_enc, FinH, resA, resV, SLe, SLe0, convTm, convHp, convB, sm, effH, mkHC0, mkHC1, lendM, lentM, lentI, allHere, addIds, idsB, flatIds, reach, posn, renV, renL, renB, renH, numB, subHp, fwd, bk, bwd, nones, keyOK, noSl, noSlL, flatBs, List.contains, List.elem, Option.isSome_some, List.nodup_nil, List.nodup_cons, List.not_mem_nil, or_false, Option.getD_some, lh_spec_anyPoint_spec_randomPoint, lh_spec_anyPoint_spec_reader_pick, hs_spec_randomPoint, hs_spec_reader_pick, rdr, hb, hp1, hp2, d1, d2, hA]
      exact ⟨by omega, id, by simp [convL, conv, conv0, clean]; omega⟩
def hs_spec_anyPoint : HSpec := ⟨[false], fun xs hp => match xs, hp with | [.ptr 1000 0], [(1000, .box ty [.sl 1 es, .num .i64 pz])] => (isBy es) ∧ (ty = 168) ∧ (pz = (pz.toNat : Int)) ∧ ((fun (b : List Int) (p : Nat) => BytesOK b) (toIs es) pz.toNat) ∧ ((fun (b : List Int) (p : Nat) => p ≤ 800000) (toIs es) pz.toNat) | _, _ => False, fun xs hp => match xs, hp with | [.ptr 1000 0], [(1000, .box ty [.sl 1 es, .num .i64 pz])] => (fun (b : List Int) (p : Nat) => (encP (aPoint b p).1 : IV)) (toIs es) pz.toNat | _, _ => .junk, fun xs hp => match xs, hp with | [.ptr 1000 0], [(1000, .box ty [.sl 1 es, .num .i64 pz])] => (fun (b : List Int) (p : Nat) => ([(1000, rdr b (aPoint b p).2)] : List (Nat × IBlk))) (toIs es) pz.toNat | _, _ => []⟩
theorem hk_spec_anyPoint : ∀ args hp, hs_spec_anyPoint.pre args hp → HCall Try.prog 160 args (sm hp) (hs_spec_anyPoint.val args hp) (sm (hs_spec_anyPoint.hval args hp)) := by
  intro args hp h
  unfold hs_spec_anyPoint at h ⊢; simp only at h ⊢; split at h
  · obtain ⟨h1, rfl, h3, h4, h5⟩ := h; obtain ⟨l, rfl⟩ := isBy_ex h1; rw [toBy_enc] at *; rw [h3]; exact c_spec_anyPoint l _ h4 (by simpa using h5)
  · exact h.elim
theorem en_spec_anyPoint : Enters Try.prog 160 := enters_of Try.func160 (by kernel_rfl) rfl


/-- The direction that a code draws. -/
def drawDir (b : List Int) : Pt := (aPoint (b.take 2000) (aPoints (b.take 2000) 0 8).2).1
theorem aPoints_pos {b : List Int} (hb : BytesOK b) {p : Nat} (hp : p ≤ 700000) {most : Int} (h0 : 0 ≤ most) (h1 : most ≤ 1000) : (aPoints b p most).2 ≤ p + 2100 := by
  obtain ⟨n1, n2⟩ := rNum_le hb (show p ≤ 900000 by omega) h0
  have hL : (rPoints b p most).length = rNum b p most := rLoop_len _ _ _ _
  unfold aPoints
  simp only []
  split
  · simp only []; omega
  · split
    · simp only []; omega
    · split
      · simp only []; omega
      · simp only []; omega

theorem rLoop_sm {b : List Int} (hb : BytesOK b) (k : Int) : ∀ n p, p + 2 * n ≤ 1000000 → SmL (rLoop b k n p)
  | 0, _, _ => fun p hp => by simp [rLoop] at hp
  | n + 1, p, h => fun q hq => by
    rcases List.mem_cons.1 hq with rfl | hq
    · have := rPoint_le hb (show p ≤ 1000000 by omega)
      unfold rAdj Sm sm1
      split
      · simp only []; omega
      · split
        · simp only []; omega
        · omega
    · exact rLoop_sm hb k n (p + 2) (by omega) q hq
theorem ext_yes {l : List Pt} {d : Pt} (h : okPs l = true ∧ 0 < l.length ∧ okP d = true) : extI l d = (farI l d l.length : Int) := if_pos h
theorem ext_no {l : List Pt} {d : Pt} (h : ¬ (okPs l = true ∧ 0 < l.length ∧ okP d = true)) : extI l d = -1 := if_neg h
/-- The hull reaches as far in each direction. -/
theorem ext_hull {l : List Pt} (d : Pt) (h0 : 0 < l.length) : 0 < (hullP l).length ∧ dotP (pAt (hullP l) (farI (hullP l) d (hullP l).length)) d = dotP (pAt l (farI l d l.length)) d := by
  have hh : 0 < (hullP l).length := by
    rcases Nat.eq_zero_or_pos (hullP l).length with h | h
    · have := hullP_nil.1 (List.length_eq_zero_iff.1 h)
      subst this; simp at h0
    · exact h
  refine ⟨hh, Int.le_antisymm ?_ ?_⟩
  · have h1 := farI_lt (hullP l) d _ hh
    obtain ⟨i, hi, he⟩ := List.getElem_of_mem (mem_hullP_sub (l := l) (v := pAt (hullP l) (farI (hullP l) d (hullP l).length)) (by
      rw [pAt, List.getD, List.getElem?_eq_getElem h1]; exact List.getElem_mem h1))
    have := farI_max l d l.length i hi
    rw [← he]
    simpa [pAt, List.getD, hi] using this
  · have h1 := farI_lt l d _ h0
    obtain ⟨v, hv, hle⟩ := hullP_sup l d.1 d.2 (q := pAt l (farI l d l.length)) (by
      rw [pAt, List.getD, List.getElem?_eq_getElem h1]; exact List.getElem_mem h1)
    rw [← dotP_lin, ← dotP_lin] at hle
    obtain ⟨i, hi, rfl⟩ := List.getElem_of_mem hv
    have := farI_max (hullP l) d _ i hi
    simp only [pAt, List.getD, List.getElem?_eq_getElem hi, Option.getD_some] at this
    exact Int.le_trans hle this

theorem okPs_sub {l m : List Pt} (h : okPs l = true) (hs : ∀ x ∈ m, x ∈ l) (hn : m.length ≤ l.length) : okPs m = true := by
  simp only [okPs, Bool.and_eq_true, List.all_eq_true, decide_eq_true_eq] at h ⊢
  exact ⟨fun x hx => h.1 x (hs x hx), by omega⟩


end Go.Proofs.Ytlgjhojihgmfhaa
