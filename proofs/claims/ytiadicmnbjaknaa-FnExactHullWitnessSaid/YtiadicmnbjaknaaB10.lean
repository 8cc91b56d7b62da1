/- Contracts: lists turned round, joined; hulls. -/
import Derived.Test.YtiadicmnbjaknaaB9
import Derived.Test.YtiadicmnbjaknaaBL
set_option linter.unusedVariables false
set_option linter.unusedSimpArgs false
namespace Go.Proofs.Ytiadicmnbjaknaa
open Go Go.Ideal Go.Pl Go.Sort

theorem pAt_ext {a b : List Pt} (h : a.length = b.length) (hj : ∀ j, j < a.length → pAt a j = pAt b j) : a = b := eq_of_getD h hj
theorem pAt_rev {l : List Pt} {q : Nat} (hq : q < l.length) : pAt l.reverse q = pAt l (l.length - 1 - q) := by
  simp only [pAt, List.getD]
  rw [List.getElem?_reverse hq]
theorem pAt_set {l : List Pt} {m q : Nat} (x : Pt) (hm : m < l.length) : pAt (l.set m x) q = if m = q then x else pAt l q := by
  simp only [pAt, List.getD, List.getElem?_set]
  split
  · rename_i h; subst h; simp
  · rfl

def g_slices_Reverse_impl_Point_impl_Point : List (Nat × PSpec) := []
theorem gok_slices_Reverse_impl_Point_impl_Point : GOK Try.prog g_slices_Reverse_impl_Point_impl_Point := gok0
def h_slices_Reverse_impl_Point_impl_Point : List (Nat × HSpec) := []
theorem hok_slices_Reverse_impl_Point_impl_Point : HOK Try.prog h_slices_Reverse_impl_Point_impl_Point := hok0
theorem c_slices_Reverse_impl_Point_impl_Point (l : List Pt) (full : Bool) (hsz : l.length ≤ 1000000) : HCall Try.prog 32 [.ref 1000 0 l.length full] (sm ([(1000, .arr 2 38 (encPs l))])) (.tup []) (sm ([(1000, .arr 2 38 (encPs l.reverse))])) := by
  refine hcall_V (G := g_slices_Reverse_impl_Point_impl_Point) (H := []) [(3, [(2, 13), (3, 13), (8, 13), (9, 13), (10, 13)])] tabOK mixed gok_slices_Reverse_impl_Point_impl_Point hok_slices_Reverse_impl_Point_impl_Point Try.func32 rfl Try.ntmps32 Try.results32 rfl (by kernel_rfl) fun F hN hlen => ?_
  simp only [sm]
  have el := len_encPs l
  have hx : ∃ k ty es, IBlk.arr 2 38 (encPs l) = IBlk.arr k ty es := ⟨_, _, _, rfl⟩
  have hw0 : IntKind.i64.wrap ((l.length : Int) - 1) = (l.length : Int) - 1 := wr (by omega) (by omega)
  simp only [V_seq, V_block, V_region, W_nil, W_cons, effOp2, KN_seq, effOp, effPure, pureV, binV, lenV, ofC, strip, lkT, ISt.app, opI, gO, gB, allB, gval, wrapG, dstOK, setD, enumT, Op.operands, Call.operands, List.append_toArray, reduceIte, reduceCtorEq, Nat.reduceLT, Nat.reduceEqDiff, ne_eq, not_false_eq_true, true_and, and_self, implies_true, List.nil_append, List.cons_append, tab26, hN, hw0]
  refine V_loop (α := Nat × List Pt) ⟨tabOK, mixed, gok_slices_Reverse_impl_Point_impl_Point.toF F, hok_slices_Reverse_impl_Point_impl_Point⟩ (by kernel_rfl) (fun b => 2 * b.1 ≤ l.length + 1 ∧ b.2.length = l.length ∧ ∀ q, q < l.length → pAt b.2 q = if q < b.1 ∨ l.length ≤ q + b.1 then pAt l (l.length - 1 - q) else pAt l q)
    (fun b => ⟨[(2, .num .i64 b.1), (3, .num .i64 ((l.length : Int) - 1 - b.1)), (0, .ref 1000 0 l.length full)], [(1000, some (.arr 2 38 (encPs b.2)))]⟩) (fun b => l.length + 1 - b.1) (0, l) id ⟨by simp, rfl, fun q hq => by simp; omega⟩ (by simp [SLe, SLe0, convTm, convHp, convB, conv, conv0, lkT, lkH, clean]) ?_
  rintro ⟨i, A⟩ ⟨b1, b2, b3⟩
  simp only [] at b1 b2 b3
  have hx : ∃ k ty es, IBlk.arr 2 38 (encPs A) = IBlk.arr k ty es := ⟨_, _, _, rfl⟩
  have eA := len_encPs A
  simp only [V_seq, V_region, V_cond, W_nil, W_cons, effOp2, KN_seq, asB, effOp, effPure, pureV, binV, strip, lkT, ISt.app, opI, gO, gB, allB, gval, wrapG, dstOK, setD, Op.operands, reduceIte, reduceCtorEq, Nat.reduceLT, Nat.reduceEqDiff, true_and, and_self, implies_true, List.nil_append, List.cons_append, hN]
  refine brW_some (fun h => ?_) (fun h => ?_)
  · have hlt : (i : Int) < (l.length : Int) - 1 - i := by simpa using h
    obtain ⟨j, hj⟩ : ∃ j : Nat, (l.length : Int) - 1 - i = j := ⟨l.length - 1 - i, by omega⟩
    have hjl : j < A.length := by omega
    have hil : i < A.length := by omega
    have g1 := getD_encPs hjl
    have g2 := getD_encPs hil
    have w1 : IntKind.i64.wrap ((i : Int) + 1) = ((i + 1 : Nat) : Int) := by rw [wr (by omega) (by omega)]; omega
    have w2 : IntKind.i64.wrap ((j : Int) - 1) = (l.length : Int) - 1 - ((i + 1 : Nat) : Int) := by rw [wr (by omega) (by omega)]; omega
    simp only [V_seq, V_skip, V_block, V_region, V_draw, drawW, WS_nil, WS_cons, pairsOf, W_nil, W_cons, effOp2, effOp3, WI_nil, WI_cons, KN_seq, KN_block, KN_back, dynOK, indB, farB, seeB, see, isStore, freshB, freshK, freshK1, heapy, effOp, effPure, effStore, pureV, storeV, binV, partV, eltV, loadV, iaddrV, over, solid, IV.cells, ofC, strip, lkT, lkH, ISt.app, opI, gO, gB, allB, gval, wrapG, dstOK, setD, mentTm, mentHp, IV.ment, IV.mentL, eltI, oneI, noId', Op.operands, reduceIte, reduceCtorEq, cond_true, cond_false, Bool.or_false, Bool.or_true, Bool.and_true, Bool.true_and, Bool.and_eq_true, Bool.not_true, Bool.not_false, Nat.reduceAdd, Nat.reduceLT, Nat.reduceLeDiff, Nat.reduceEqDiff, Nat.reduceBEq, Nat.zero_add, ne_eq, not_false_eq_true, beq_self_eq_true, true_and, and_true, and_false, and_self, implies_true, forall_const, List.map_cons, List.map_nil, List.nil_append, List.cons_append, List.append_nil, List.all_cons, List.all_nil, List.getD_cons_zero, List.getD_cons_succ, List.length_cons, List.length_nil, List.take_succ_cons, List.take_zero, List.take_nil, List.drop_succ_cons, List.drop_zero, List.drop_nil, tab26, tab38, hN, Int.toNat_natCast, hj, g1, g2, w1, w2, Nat.zero_add]
    refine ⟨by omega, by omega, by omega, by omega, by omega, by omega, by omega, by rw [List.length_set]; omega, (i + 1, (A.set i (pAt A j)).set j (pAt A i)), id, ⟨by simp only []; omega, by simp [b2], fun q hq => ?_⟩, by simp only []; omega, ?_⟩
    · simp only []
      have hAi : pAt A i = pAt l i := by rw [b3 i (by omega), if_neg (by omega)]
      have hAj : pAt A j = pAt l j := by rw [b3 j (by omega), if_neg (by omega)]
      have e : pAt ((A.set i (pAt A j)).set j (pAt A i)) q = if j = q then pAt A i else if i = q then pAt A j else pAt A q := by
        rw [pAt_set _ (by rw [List.length_set]; exact hjl), pAt_set _ hil]
      rw [e]
      by_cases c1 : j = q
      · subst c1
        rw [if_pos rfl, if_pos (by omega), hAi]
        congr 1; omega
      · rw [if_neg c1]
        by_cases c2 : i = q
        · subst c2
          rw [if_pos rfl, if_pos (by omega), hAj]
          congr 1; omega
        · rw [if_neg c2, b3 q hq]
          by_cases c3 : q < i ∨ l.length ≤ q + i
          · rw [if_pos c3, if_pos (by omega)]
          · rw [if_neg c3, if_neg (by omega)]
    · simp [SLe, SLe0, convTm, convHp, convB, conv, conv0, lkT, lkH, clean]
      have e1 := encPs_set A i (pAt A j)
      have e2 := encPs_set (A.set i (pAt A j)) j (pAt A i)
      rw [← e1] at e2
      exact take_eq_of (by simpa using e2.symm)
  · have hge : (l.length : Int) - 1 - i ≤ i := by simp at h; omega
    have hA : A = l.reverse := by
      refine pAt_ext (by simp [b2]) fun q hq => ?_
      rw [b3 q (by omega), pAt_rev (by omega)]
      split
      · rfl
      · rw [show l.length - 1 - q = q by omega]
    subst hA
    simp only [V_exit, KN_nil, KXe_nil, KXe_seq, KXe_block, KXe_back, QE, lkT, lkH, conv, convL, reduceIte, true_and, and_true, and_self, List.map_cons, List.map_nil, FinH, resA, SLe, SLe0, convTm, convHp, convB]
    exact ⟨id, by simp⟩
def hs_slices_Reverse_impl_Point_impl_Point : HSpec := ⟨[false], fun xs hp => match xs, hp with | [.ref 1000 0 n full], [(1000, .arr 2 ty es)] => (isPs es) ∧ (ty = 38) ∧ (n = es.length) ∧ ((fun (l : List Pt) (full : Bool) => l.length ≤ 1000000) (toPs es) full) | _, _ => False, fun xs hp => match xs, hp with | [.ref 1000 0 n full], [(1000, .arr 2 ty es)] => (fun (l : List Pt) (full : Bool) => (.tup [] : IV)) (toPs es) full | _, _ => .junk, fun xs hp => match xs, hp with | [.ref 1000 0 n full], [(1000, .arr 2 ty es)] => (fun (l : List Pt) (full : Bool) => ([(1000, .arr 2 38 (encPs l.reverse))] : List (Nat × IBlk))) (toPs es) full | _, _ => []⟩
theorem hk_slices_Reverse_impl_Point_impl_Point : ∀ args hp, hs_slices_Reverse_impl_Point_impl_Point.pre args hp → HCall Try.prog 32 args (sm hp) (hs_slices_Reverse_impl_Point_impl_Point.val args hp) (sm (hs_slices_Reverse_impl_Point_impl_Point.hval args hp)) := by
  intro args hp h
  unfold hs_slices_Reverse_impl_Point_impl_Point at h ⊢; simp only at h ⊢; split at h
  · obtain ⟨h1, rfl, rfl, h2⟩ := h; obtain ⟨l, rfl⟩ := isP_ex h1; rw [toPs_enc] at *; rw [len_encPs]; exact c_slices_Reverse_impl_Point_impl_Point l _ h2
  · exact h.elim
theorem en_slices_Reverse_impl_Point_impl_Point : Enters Try.prog 32 := enters_of Try.func32 (by kernel_rfl) rfl



/-- Room for so many points. -/
def g_slices_Grow_impl_Point_impl_Point : List (Nat × PSpec) := []
theorem gok_slices_Grow_impl_Point_impl_Point : GOK Try.prog g_slices_Grow_impl_Point_impl_Point := gok0
def h_slices_Grow_impl_Point_impl_Point : List (Nat × HSpec) := []
theorem hok_slices_Grow_impl_Point_impl_Point : HOK Try.prog h_slices_Grow_impl_Point_impl_Point := hok0
theorem c_slices_Grow_impl_Point_impl_Point (n : Nat) (h0 : 0 < n) (hsz : n ≤ 1000000) : HCall Try.prog 49 [.nils, .num .i64 n] (sm ([])) (.ref 0 0 0 true) (sm ([(0, .arr 2 38 [])])) := by
  refine hcall_V (G := g_slices_Grow_impl_Point_impl_Point) (H := []) [] tabOK mixed gok_slices_Grow_impl_Point_impl_Point hok_slices_Grow_impl_Point_impl_Point Try.func49 rfl Try.ntmps49 Try.results49 rfl (by kernel_rfl) fun F hN hlen => ?_
  simp only [sm]
  have d1 : decide (((n : Nat) : Int) < 0) = false := by simp only [decide_eq_false_iff_not]; omega
  have d2 : decide ((0 : Int) < ((n : Nat) : Int)) = true := by simpa using h0
  have w1 : IntKind.i64.wrap ((0 : Int) - 0) = 0 := by decide
  have w2 : IntKind.i64.wrap (((n : Nat) : Int) - 0) = ((n : Nat) : Int) := by rw [wr (by omega) (by omega)]; omega
  have w3 : IntKind.i64.wrap (((0 : Nat) : Int) - ((0 : Nat) : Int)) = 0 := by decide
  simp only [V_seq, V_skip, V_ret, V_region, V_cond, brW_true, brW_false, W_nil, W_cons, effOp2, KN_seq, KXr_nil, QE, asB, effOp, effPure, effNew, effAppend, effZeros, Option.isSome_some, skipE, pureV, srcV, binV, sliceV, lenV, ofC, strip, lkT, lkH, ISt.app, opI, gO, gB, allB, gval, wrapG, dstOK, setD, mentTm, mentHp, IV.ment, zeroElt, noId', enumT, conv, conv0, Op.operands, Call.operands, List.append_toArray, Array.append_empty, Option.toArray_none, Option.toArray_some, reduceIte, reduceCtorEq, cond_true, Bool.or_false, Bool.and_true, Nat.reduceMul, Nat.reduceLT, Nat.reduceLeDiff, Nat.reduceEqDiff, Nat.zero_add, ne_eq, not_false_eq_true, true_and, and_true, and_false, and_self, implies_true, forall_const, List.map_cons, List.map_nil, List.nil_append, List.cons_append, List.append_nil, List.all_cons, List.all_nil, Option.map_some, Option.map_none, List.length_nil, tab3, tab26, tab38, hN, Int.toNat_natCast, FinH, resA, resV, SLe, SLe0, convTm, convHp, convB, d1, d2, w1, w2]
  repeat refine And.intro (by first | omega | (simp; done) | (simp; omega)) ?_
  exact ⟨fun x => if x = 0 then 22 else x, by simp; omega⟩
def hs_slices_Grow_impl_Point_impl_Point : HSpec := ⟨[false, false], fun xs hp => match xs, hp with | [.nils, .num .i64 z], [] => (z = (z.toNat : Int)) ∧ ((fun (n : Nat) => 0 < n) z.toNat) ∧ ((fun (n : Nat) => n ≤ 1000000) z.toNat) | _, _ => False, fun xs hp => match xs, hp with | [.nils, .num .i64 z], [] => (fun (n : Nat) => (.ref 0 0 0 true : IV)) z.toNat | _, _ => .junk, fun xs hp => match xs, hp with | [.nils, .num .i64 z], [] => (fun (n : Nat) => ([(0, .arr 2 38 [])] : List (Nat × IBlk))) z.toNat | _, _ => []⟩
theorem hk_slices_Grow_impl_Point_impl_Point : ∀ args hp, hs_slices_Grow_impl_Point_impl_Point.pre args hp → HCall Try.prog 49 args (sm hp) (hs_slices_Grow_impl_Point_impl_Point.val args hp) (sm (hs_slices_Grow_impl_Point_impl_Point.hval args hp)) := by
  intro args hp h
  unfold hs_slices_Grow_impl_Point_impl_Point at h ⊢; simp only at h ⊢; split at h
  · obtain ⟨h1, h2, h3⟩ := h; rw [h1]; exact c_slices_Grow_impl_Point_impl_Point _ h2 h3
  · exact h.elim
theorem en_slices_Grow_impl_Point_impl_Point : Enters Try.prog 49 := enters_of Try.func49 (by kernel_rfl) rfl


def lensL (Ls : List (List Pt)) : Nat := (Ls.map List.length).sum
theorem lens_step {Ls : List (List Pt)} {i : Nat} (hi : i < Ls.length) : lensL (Ls.take (i + 1)) = lensL (Ls.take i) + (Ls.getD i []).length := by
  unfold lensL
  rw [take_succ_g (d := []) hi, List.map_append, List.sum_append]
  simp
theorem flat_step {Ls : List (List Pt)} {i : Nat} (hi : i < Ls.length) : (Ls.take (i + 1)).flatten = (Ls.take i).flatten ++ Ls.getD i [] := by
  rw [take_succ_g (d := []) hi, List.flatten_append]
  simp
theorem lens_flat (Ls : List (List Pt)) : Ls.flatten.length = lensL Ls := by simp [lensL, List.length_flatten]
theorem lens_le (Ls : List (List Pt)) (i : Nat) : lensL (Ls.take i) ≤ lensL Ls := by
  have : Ls = Ls.take i ++ Ls.drop i := (List.take_append_drop i Ls).symm
  have h : lensL Ls = lensL (Ls.take i) + lensL (Ls.drop i) := by
    conv => lhs; rw [this]
    simp only [lensL, List.map_append, List.sum_append]
  omega
def g_e_concat : List (Nat × PSpec) := []
theorem gok_e_concat : GOK Try.prog g_e_concat := gok0
def h_e_concat : List (Nat × HSpec) := [(49, hs_slices_Grow_impl_Point_impl_Point)]
theorem hok_e_concat : HOK Try.prog h_e_concat := hok_cons hk_slices_Grow_impl_Point_impl_Point en_slices_Grow_impl_Point_impl_Point (hok0)
theorem lh_e_concat_slices_Grow_impl_Point_impl_Point : lkHS h_e_concat 49 = some hs_slices_Grow_impl_Point_impl_Point := rfl
theorem concat_call (Ls : List (List Pt)) (h0 : 0 < lensL Ls) (hsz : lensL Ls ≤ 1000000) (hn : Ls.length ≤ 1000000) : HCall Try.prog 34 [.sl 1 (encLs Ls)] [] (.ref 0 0 (lensL Ls) true) (sm [(0, .arr 2 38 (encPs Ls.flatten))]) := by
  refine hcall_V (G := g_e_concat) (H := h_e_concat) [] tabOK mixed gok_e_concat hok_e_concat Try.func34 rfl Try.ntmps34 Try.results34 rfl (by kernel_rfl) fun F hN hlen => ?_
  simp only [sm]
  have el : (encLs Ls).length = Ls.length := by simp [encLs]
  simp only [V_seq, V_block, V_region, W_nil, W_cons, effOp2, KN_seq, effOp, effPure, pureV, lenV, ofC, strip, lkT, ISt.app, opI, gO, gB, allB, gval, wrapG, dstOK, setD, enumT, Op.operands, Call.operands, List.append_toArray, reduceIte, reduceCtorEq, Nat.reduceLT, Nat.reduceEqDiff, ne_eq, not_false_eq_true, true_and, and_self, implies_true, List.nil_append, List.cons_append, List.append_nil, tab61, hN, el]
  refine V_loop (α := Nat) ⟨tabOK, mixed, gok_e_concat.toF F, hok_e_concat⟩ (by kernel_rfl) (fun i => i ≤ Ls.length) (fun i => ⟨[(11, .num .i64 i), (10, .num .i64 Ls.length), (9, .sl 1 (encLs Ls)), (3, .num .i64 (lensL (Ls.take i))), (0, .sl 1 (encLs Ls))], []⟩) (fun i => Ls.length - i) 0 id (Nat.zero_le _) (by simp [SLe, SLe0, convTm, convHp, conv, conv0, lkT, lkH, clean, lensL]) ?_
  intro i hi
  simp only [V_seq, V_region, V_cond, W_nil, W_cons, effOp2, KN_seq, asB, effOp, effPure, pureV, binV, strip, lkT, ISt.app, opI, gO, gB, allB, gval, wrapG, dstOK, setD, Op.operands, reduceIte, reduceCtorEq, Nat.reduceLT, Nat.reduceEqDiff, true_and, and_self, implies_true, List.nil_append, List.cons_append, List.append_nil, hN]
  refine brW_some (fun h => ?_) (fun h => ?_)
  · have hi' : i < Ls.length := by simpa using h
    have g1 := getD_encLs hi'
    have hw := wr_succ hi' (by rw [maxLen_eq]; omega)
    have hst := lens_step hi'
    have hle := lens_le Ls (i + 1)
    have e2 := len_encPs (Ls.getD i [])
    have w1 : IntKind.i64.wrap (((lensL (Ls.take i) : Nat) : Int) + (((Ls.getD i []).length : Nat) : Int)) = ((lensL (Ls.take (i + 1)) : Nat) : Int) := by rw [wr (by omega) (by omega)]; omega
    have d1 : decide (((lensL (Ls.take (i + 1)) : Nat) : Int) < 0) = false := by simp only [decide_eq_false_iff_not]; omega
    simp only [V_seq, V_skip, V_block, V_region, V_cond, brW_false, W_nil, W_cons, effOp2, KN_seq, KN_block, KN_back, asB, effOp, effPure, pureV, binV, eltV, loadV, iaddrV, lenV, ofC, strip, lkT, ISt.app, opI, gO, gB, allB, gval, wrapG, dstOK, setD, Op.operands, Call.operands, List.append_toArray, reduceIte, reduceCtorEq, Nat.reduceLT, Nat.reduceEqDiff, ne_eq, not_false_eq_true, true_and, and_true, and_self, implies_true, forall_const, List.nil_append, List.cons_append, List.append_nil, tab26, tab61, hN, Int.toNat_natCast, el, g1, hw, e2, w1, d1]
    repeat refine And.intro (by first | omega | (simp; done) | (simp; omega)) ?_
    exact ⟨i + 1, id, by simp only []; omega, by simp only []; omega, by simp [SLe, SLe0, convTm, convHp, conv, conv0, lkT, lkH, clean]⟩
  · have hie : i = Ls.length := by simp at h; omega
    subst hie
    have z1 : 0 < lensL Ls := h0
    simp only [V_seq, V_exit, V_block, V_region, W_nil, W_cons, effOp2, KN_seq, KXe_nil, KXe_seq, KXe_block, KXe_back, QE, effOp, effPure, Option.isSome_some, skipE, pureV, lenV, ofC, strip, lkT, lkH, ISt.app, opI, gO, gB, allB, gval, wrapG, dstOK, setD, mentTm, mentHp, IV.ment, idsV, idsL, clean, callArgs, callFn, enumT, conv, conv0, IBlk.shape, Op.operands, Call.operands, List.append_toArray, reduceIte, reduceCtorEq, cond_true, cond_false, Bool.or_false, Bool.and_true, Bool.not_false, Nat.reduceAdd, Nat.reduceSub, Nat.reduceMul, Nat.reduceLT, Nat.reduceLeDiff, Nat.reduceEqDiff, Nat.add_zero, Nat.zero_add, ne_eq, not_false_eq_true, true_and, and_false, and_self, implies_true, List.map_cons, List.map_nil, List.nil_append, List.cons_append, List.append_nil, List.all_nil, Option.map_none, List.length_nil, List.take_nil, ex_clo, or_self, tab61, hN, Int.toNat_natCast, FinH, SLe0, convTm, convHp, convB, sm, effH, mkHC0, mkHC1, lendM, lentM, lentI, allHere, addIds, flatIds, reach, posn, renV, renL, renB, renH, numB, subHp, fwd, bk, bwd, nones, keyOK, noSl, noSlL, flatBs, List.contains, List.elem, Option.isSome_some, List.nodup_nil, List.nodup_cons, List.not_mem_nil, Option.getD_some, lh_e_concat_slices_Grow_impl_Point_impl_Point, hs_slices_Grow_impl_Point_impl_Point, List.take_length, z1, hsz, el]
    refine V_loop (α := Nat) ⟨tabOK, mixed, gok_e_concat.toF F, hok_e_concat⟩ (by kernel_rfl) (fun i => i ≤ Ls.length) (fun i => ⟨[(27, .num .i64 i), (26, .num .i64 Ls.length), (25, .sl 1 (encLs Ls)), (6, .ref 2384 0 (lensL (Ls.take i)) true)], [(2384, some (.arr 2 38 (encPs (Ls.take i).flatten)))]⟩) (fun i => Ls.length - i) 0 id (Nat.zero_le _) (by simp [SLe, SLe0, convTm, convHp, convB, conv, conv0, lkT, lkH, clean, lensL, encPs]) ?_
    intro i hi
    have lf := len_encPs (Ls.take i).flatten
    rw [lens_flat] at lf
    simp only [V_seq, V_region, V_cond, W_nil, W_cons, effOp2, KN_seq, asB, effOp, effPure, pureV, binV, strip, lkT, ISt.app, opI, gO, gB, allB, gval, wrapG, dstOK, setD, Op.operands, reduceIte, Nat.reduceLT, Nat.reduceEqDiff, true_and, and_self, implies_true, List.nil_append, List.cons_append, hN]
    refine brW_some (fun h => ?_) (fun h => ?_)
    · have hi' : i < Ls.length := by simpa using h
      have g1 := getD_encLs hi'
      have hw := wr_succ hi' (by rw [maxLen_eq]; omega)
      have hst := lens_step hi'
      have hfl := flat_step hi'
      have hle := lens_le Ls (i + 1)
      have e2 := len_encPs (Ls.getD i [])
      simp only [V_seq, V_skip, V_block, V_region, W_nil, W_cons, effOp2, KN_seq, KN_block, KN_back, effOp, effPure, effAppend, effZeros, skipE, pureV, srcV, refId, binV, eltV, loadV, iaddrV, ofC, strip, lkT, lkH, ISt.app, opI, gO, gB, allB, gval, wrapG, dstOK, setD, mentTm, mentHp, IV.ment, Op.operands, reduceIte, reduceCtorEq, cond_true, Bool.or_false, Nat.reduceLT, Nat.reduceEqDiff, Nat.reduceBEq, ne_eq, not_false_eq_true, true_and, and_true, and_self, implies_true, forall_const, List.nil_append, List.cons_append, tab26, tab38, tab61, hN, Int.toNat_natCast, el, g1, hw, e2, lf]
      repeat refine And.intro (by first | omega | (simp; done) | (simp; omega)) ?_
      refine ⟨i + 1, fun x => if x = 2384 then 33 else x, by simp only []; omega, by simp only []; omega, ?_⟩
      simp [SLe, SLe0, convTm, convHp, convB, conv, conv0, lkT, lkH, clean]
      refine ⟨⟨hst.symm, take_eq_of ?_⟩, fun x a1 a2 a3 => by omega⟩
      have tk : List.take (lensL (List.take i Ls)) (encPs (List.take i Ls).flatten) = encPs (List.take i Ls).flatten := List.take_of_length_le (Nat.le_of_eq lf)
      rw [hfl, ← encPs_app, tk]
      simp [List.getD]
    · have hie : i = Ls.length := by simp at h; omega
      subst hie
      rw [List.take_length] at lf
      simp only [V_seq, V_ret, V_exit, V_region, W_nil, W_cons, effOp2, KN_seq, KXr_nil, KXe_nil, KXe_seq, KXe_block, KXe_back, QE, effOp, effPure, Option.isSome_some, pureV, strip, lkT, lkH, ISt.app, opI, gO, gB, allB, gval, wrapG, dstOK, setD, conv, conv0, Op.operands, reduceIte, Nat.reduceLT, Nat.reduceEqDiff, not_false_eq_true, true_and, and_true, and_self, implies_true, List.map_cons, List.map_nil, List.nil_append, List.cons_append, hN, FinH, resA, resV, SLe, SLe0, convTm, convHp, convB, Option.isSome_some, List.nodup_nil, List.nodup_cons, List.not_mem_nil, List.take_length]
      exact ⟨fun x => if x = 0 then 2384 else x, by simp; omega⟩

end Go.Proofs.Ytiadicmnbjaknaa
