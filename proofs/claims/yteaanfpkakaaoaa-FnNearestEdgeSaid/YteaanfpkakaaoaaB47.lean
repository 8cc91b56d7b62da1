/- Contracts: points on one line (reference); the program's sweep. -/
import Derived.Test.YteaanfpkakaaoaaBK
import Derived.Test.YteaanfpkakaaoaaBS
import Derived.Test.YteaanfpkakaaoaaBY
import Derived.Test.YteaanfpkakaaoaaBN
import Derived.Test.YteaanfpkakaaoaaPl26
set_option linter.unusedVariables false
set_option linter.unusedSimpArgs false
set_option maxHeartbeats 3200000
set_option maxRecDepth 100000
namespace Go.Proofs.Yteaanfpkakaaoaa
open Go Go.Ideal Go.Pl Go.Sort

theorem col3_no {l : List Pt} {i k n : Nat} (h1 : n < k) (h2 : k < i) (h3 : i < l.length) (h : turn (pA l i) (pA l k) (pA l n) ≠ 0) : col3 l = false := by
  cases hc : col3 l with
  | false => rfl
  | true => exact absurd (col3_iff.1 hc i k n h1 h2 h3) h
def g_spec_collinear : List (Nat × PSpec) := [(55, sp_spec_cross)]
theorem gok_spec_collinear : GOK Try.prog g_spec_collinear := gok_cons gk_spec_cross en_spec_cross (gok0)
theorem lk_spec_collinear_spec_cross : lkG g_spec_collinear 55 = sp_spec_cross := rfl
def h_spec_collinear : List (Nat × HSpec) := []
theorem hok_spec_collinear : HOK Try.prog h_spec_collinear := hok0
theorem c_spec_collinear (l : List Pt) (hm : SmL l) (hsz : l.length ≤ 1000000) : ICall Try.prog 54 [.sl 2 (encPs l)] (.bool (col3 l)) := by
  refine icall_V (G := g_spec_collinear) (H := []) [(10, [(0, 12), (1, 12), (2, 12), (4, 12), (5, 12), (6, 12), (8, 12), (9, 12), (10, 12)])] tabOK mixed gok_spec_collinear hok_spec_collinear Try.func54 rfl Try.ntmps54 Try.results54 rfl (by kernel_rfl) fun F hN hlen => ?_
  have el := len_encPs l
  simp only [V_seq, V_block, V_region, W_nil, W_cons, effOp2, KN_seq, effOp, effPure, pureV, ofC, strip, ISt.app, opI, gO, gB, allB, gval, wrapG, dstOK, setD, enumT, Op.operands, Nat.reduceLT, true_and, and_self, implies_true, List.nil_append, List.cons_append, List.append_nil, hN]
  refine V_loop (α := Nat) ⟨tabOK, mixed, gok_spec_collinear, hok_spec_collinear⟩ (by kernel_rfl) (fun i => i ≤ l.length ∧ ∀ a b c, c < b → b < a → a < i → turn (pA l a) (pA l b) (pA l c) = 0) (fun i => ⟨[(3, .num .i64 i), (0, .sl 2 (encPs l))], []⟩) (fun i => l.length - i) 0 id ⟨Nat.zero_le _, fun a b c _ _ h => absurd h (Nat.not_lt_zero a)⟩ (by simp [SLe, SLe0, convTm, convHp, conv, conv0, lkT, lkH, clean]) ?_
  rintro i ⟨hi, ha⟩
  simp only [V_seq, V_region, V_cond, W_nil, W_cons, effOp2, KN_seq, asB, effOp, effPure, pureV, binV, lenV, strip, lkT, ISt.app, opI, gO, gB, allB, gval, wrapG, dstOK, setD, Op.operands, Call.operands, List.append_toArray, reduceIte, reduceCtorEq, Nat.reduceLT, Nat.reduceEqDiff, ne_eq, not_false_eq_true, true_and, and_self, implies_true, List.nil_append, List.cons_append, List.append_nil, tab23, hN, el]
  refine brW_some (fun h => ?_) (fun h => ?_)
  · have hi' : i < l.length := by simpa using h
    have hw := wr_succ hi' (by rw [maxLen_eq]; omega)
    simp only [V_seq, V_skip, V_block, V_region, W_nil, W_cons, effOp2, KN_seq, effOp, effPure, pureV, ofC, strip, ISt.app, opI, gO, gB, allB, gval, wrapG, dstOK, setD, Op.operands, Nat.reduceLT, true_and, and_self, implies_true, List.nil_append, List.cons_append, List.append_nil, hN]
    refine V_loop (α := Nat) ⟨tabOK, mixed, gok_spec_collinear, hok_spec_collinear⟩ (by kernel_rfl) (fun k => k ≤ i ∧ ∀ b c, c < b → b < k → turn (pA l i) (pA l b) (pA l c) = 0) (fun k => ⟨[(4, .num .i64 k), (3, .num .i64 i), (0, .sl 2 (encPs l))], []⟩) (fun k => i - k) 0 id ⟨Nat.zero_le _, fun b c _ h => absurd h (Nat.not_lt_zero b)⟩ (by simp [SLe, SLe0, convTm, convHp, conv, conv0, lkT, lkH, clean]) ?_
    rintro k ⟨hk, hb⟩
    simp only [V_seq, V_region, V_cond, W_nil, W_cons, effOp2, KN_seq, asB, effOp, effPure, pureV, binV, strip, lkT, ISt.app, opI, gO, gB, allB, gval, wrapG, dstOK, setD, Op.operands, reduceIte, reduceCtorEq, Nat.reduceLT, Nat.reduceEqDiff, true_and, and_self, implies_true, List.nil_append, List.cons_append, List.append_nil, hN]
    refine brW_some (fun h => ?_) (fun h => ?_)
    · have hk' : k < i := by simpa using h
      have hwk := wr_succ (show k < l.length by omega) (by rw [maxLen_eq]; omega)
      simp only [V_seq, V_skip, V_block, V_region, W_nil, W_cons, effOp2, KN_seq, effOp, effPure, pureV, ofC, strip, ISt.app, opI, gO, gB, allB, gval, wrapG, dstOK, setD, Op.operands, Nat.reduceLT, true_and, and_self, implies_true, List.nil_append, List.cons_append, List.append_nil, hN]
      refine V_loop (α := Nat) ⟨tabOK, mixed, gok_spec_collinear, hok_spec_collinear⟩ (by kernel_rfl) (fun n => n ≤ k ∧ ∀ c, c < n → turn (pA l i) (pA l k) (pA l c) = 0) (fun n => ⟨[(5, .num .i64 n), (4, .num .i64 k), (3, .num .i64 i), (0, .sl 2 (encPs l))], []⟩) (fun n => k - n) 0 id ⟨Nat.zero_le _, fun c h => absurd h (Nat.not_lt_zero c)⟩ (by simp [SLe, SLe0, convTm, convHp, conv, conv0, lkT, lkH, clean]) ?_
      rintro n ⟨hn, hc⟩
      simp only [V_seq, V_region, V_cond, W_nil, W_cons, effOp2, KN_seq, asB, effOp, effPure, pureV, binV, strip, lkT, ISt.app, opI, gO, gB, allB, gval, wrapG, dstOK, setD, Op.operands, reduceIte, reduceCtorEq, Nat.reduceLT, Nat.reduceEqDiff, true_and, and_self, implies_true, List.nil_append, List.cons_append, List.append_nil, hN]
      refine brW_some (fun h => ?_) (fun h => ?_)
      · have hn' : n < k := by simpa using h
        have hwn := wr_succ (show n < l.length by omega) (by rw [maxLen_eq]; omega)
        have g1 := getD_encPs hi'
        have g2 := getD_encPs (show k < l.length by omega)
        have g3 := getD_encPs (show n < l.length by omega)
        have s1 := hm.at i
        have s2 := hm.at k
        have s3 := hm.at n
        have hno := col3_no (l := l) hn' hk' hi'
        have p1 : pAt l i = pA l i := rfl
        have p2 : pAt l k = pA l k := rfl
        have p3 : pAt l n = pA l n := rfl
        rw [p1] at g1 s1
        rw [p2] at g2 s2
        rw [p3] at g3 s3
        cases c1 : (turn (pA l i) (pA l k) (pA l n) != 0) with
        | true =>
          have hv := hno (by simpa using c1)
          simp only [V_seq, V_skip, V_ret, V_block, V_region, V_draw, V_cond, brW_true, drawW, WS_nil, pairsOf, W_nil, W_cons, effOp2, effOp3, WI_nil, WI_cons, KN_seq, KXr_nil, KXr_seq, KXr_block, KXr_back, QE, dynOK, indB, farB, freshB, freshK, freshK1, heapy, asB, effOp, effPure, effCall, giveUp, hasAll, pureV, binV, partV, eltV, loadV, iaddrV, ofC, strip, lkT, lkH, ISt.app, opI, gO, gB, allB, gval, wrapG, dstOK, setD, mentTm, mentHp, IV.ment, lendV, lendP, lent, lentP, idsV, idsL, lkHS, flat, clean, callArgs, callFn, allLent, Gives, Ideal.Fin, conv, conv0, Op.operands, Call.operands, List.append_toArray, reduceIte, reduceCtorEq, cond_true, cond_false, Bool.or_false, Bool.and_true, Bool.and_eq_true, Bool.not_true, Bool.not_false, Nat.reduceAdd, Nat.reduceLT, Nat.reduceLeDiff, Nat.reduceEqDiff, Nat.reduceBEq, Nat.zero_add, ne_eq, not_false_eq_true, true_and, and_true, and_false, and_self, implies_true, forall_const, List.map_cons, List.map_nil, List.nil_append, List.cons_append, List.append_nil, List.getD_cons_zero, List.getD_cons_succ, List.length_cons, List.length_nil, List.take_succ_cons, List.take_zero, List.take_nil, List.drop_zero, ex_clo, or_self, tab23, tab34, hN, pe, Int.toNat_natCast, lk_spec_collinear_spec_cross, sp_spec_cross, el, g1, g2, g3, s1, s2, s3, c1, hv]
          omega
        | false =>
          simp only [V_seq, V_skip, V_block, V_region, V_draw, V_cond, brW_false, drawW, WS_nil, pairsOf, W_nil, W_cons, effOp2, effOp3, WI_nil, WI_cons, KN_seq, KN_block, KN_back, dynOK, indB, farB, freshB, freshK, freshK1, heapy, asB, effOp, effPure, effCall, giveUp, hasAll, pureV, binV, partV, eltV, loadV, iaddrV, ofC, strip, lkT, lkH, ISt.app, opI, gO, gB, allB, gval, wrapG, dstOK, setD, mentTm, mentHp, IV.ment, lendV, lendP, lent, lentP, idsV, idsL, lkHS, flat, clean, callArgs, callFn, allLent, Op.operands, Call.operands, List.append_toArray, reduceIte, reduceCtorEq, cond_true, cond_false, Bool.or_false, Bool.and_true, Bool.and_eq_true, Bool.not_true, Bool.not_false, Nat.reduceAdd, Nat.reduceLT, Nat.reduceLeDiff, Nat.reduceEqDiff, Nat.reduceBEq, Nat.zero_add, ne_eq, not_false_eq_true, true_and, and_true, and_false, and_self, implies_true, forall_const, List.map_cons, List.map_nil, List.nil_append, List.cons_append, List.append_nil, List.getD_cons_zero, List.getD_cons_succ, List.length_cons, List.length_nil, List.take_succ_cons, List.take_zero, List.take_nil, List.drop_zero, ex_clo, or_self, tab23, tab34, hN, pe, Int.toNat_natCast, lk_spec_collinear_spec_cross, sp_spec_cross, el, g1, g2, g3, s1, s2, s3, c1, hwn]
          repeat refine And.intro (by first | omega | (simp; done) | (simp; omega)) ?_
          refine ⟨n + 1, id, ⟨by omega, fun c hc' => ?_⟩, by simp only []; omega, by simp [SLe, SLe0, convTm, convHp, conv, conv0, lkT, lkH, clean]⟩
          rcases Nat.lt_or_ge c n with q | q
          · exact hc c q
          · rw [show c = n by omega]; simpa using c1
      · have hne : n = k := by simp at h; omega
        subst hne
        simp only [V_seq, V_ret, V_exit, V_region, W_nil, W_cons, effOp2, KN_seq, KN_block, KN_back, KXr_nil, KXe_nil, KXe_seq, KXe_block, KXe_back, QE, effOp, effPure, pureV, binV, ofC, strip, lkT, lkH, ISt.app, opI, gO, gB, allB, gval, wrapG, dstOK, setD, clean, Gives, Ideal.Fin, conv, conv0, Op.operands, reduceIte, reduceCtorEq, Nat.reduceLT, Nat.reduceEqDiff, true_and, and_true, and_self, implies_true, List.nil_append, List.cons_append, List.append_nil, hN, hwk]
        refine ⟨n + 1, id, ⟨by omega, fun b c h1 h2 => ?_⟩, by simp only []; omega, by simp [SLe, SLe0, convTm, convHp, conv, conv0, lkT, lkH, clean]⟩
        rcases Nat.lt_or_ge b n with q | q
        · exact hb b c h1 q
        · rw [show b = n by omega]; exact hc c (by omega)
    · have hke : k = i := by simp at h; omega
      subst hke
      simp only [V_seq, V_ret, V_exit, V_region, W_nil, W_cons, effOp2, KN_seq, KN_block, KN_back, KXr_nil, KXe_nil, KXe_seq, KXe_block, KXe_back, QE, effOp, effPure, pureV, binV, ofC, strip, lkT, lkH, ISt.app, opI, gO, gB, allB, gval, wrapG, dstOK, setD, clean, Gives, Ideal.Fin, conv, conv0, Op.operands, reduceIte, reduceCtorEq, Nat.reduceLT, Nat.reduceEqDiff, true_and, and_true, and_self, implies_true, List.nil_append, List.cons_append, List.append_nil, hN, hw]
      refine ⟨k + 1, id, ⟨by omega, fun a b c h1 h2 h3 => ?_⟩, by simp only []; omega, by simp [SLe, SLe0, convTm, convHp, conv, conv0, lkT, lkH, clean]⟩
      rcases Nat.lt_or_ge a k with q | q
      · exact ha a b c h1 h2 q
      · rw [show a = k by omega]; exact hb b c h1 (by omega)
  · have hie : i = l.length := by simp at h; omega
    subst hie
    have hv : col3 l = true := col3_iff.2 fun a b c h1 h2 h3 => ha a b c h1 h2 h3
    simp only [V_seq, V_ret, V_exit, V_region, W_nil, W_cons, effOp2, KN_seq, KXr_nil, KXe_nil, KXe_seq, KXe_block, KXe_back, QE, effOp, effPure, pureV, ofC, strip, lkT, lkH, ISt.app, opI, gO, gB, allB, gval, wrapG, dstOK, setD, clean, Gives, Ideal.Fin, conv, conv0, Op.operands, reduceIte, reduceCtorEq, Nat.reduceLT, Nat.reduceEqDiff, and_self, implies_true, List.nil_append, List.cons_append, List.append_nil, hN, hv]
def sp_spec_collinear : PSpec := ⟨fun xs => match xs with | [.sl 2 les] => isPs les ∧ ((fun (l : List Pt) => SmL l) (toPs les)) ∧ ((fun (l : List Pt) => l.length ≤ 1000000) (toPs les)) | _ => False, fun xs => match xs with | [.sl _ les] => (fun (l : List Pt) => .bool (col3 l)) (toPs les) | _ => .junk, false⟩
theorem gk_spec_collinear : ∀ args, sp_spec_collinear.pre args → ICall Try.prog 54 args (sp_spec_collinear.val args) := by
  intro args h
  unfold sp_spec_collinear at h ⊢; simp only at h ⊢; split at h
  · obtain ⟨h0, h1, h2⟩ := h
    obtain ⟨l0, rfl⟩ := isP_ex h0
    simp only [toPs_enc] at *
    exact c_spec_collinear _ h1 h2
  · exact h.elim
theorem en_spec_collinear : Enters Try.prog 54 := enters_of Try.func54 (by kernel_rfl) rfl

theorem encBl_set (l : List Bool) (m : Nat) (b : Bool) : (encBl l).set m (.bool b) = encBl (l.set m b) := by simp only [encBl, List.map_set]
theorem encBl_app (l m : List Bool) : encBl l ++ encBl m = encBl (l ++ m) := by simp [encBl]
def g_slices_Clip_impl_Triangle_impl_Triangle : List (Nat × PSpec) := []
theorem gok_slices_Clip_impl_Triangle_impl_Triangle : GOK Try.prog g_slices_Clip_impl_Triangle_impl_Triangle := gok0
def h_slices_Clip_impl_Triangle_impl_Triangle : List (Nat × HSpec) := []
theorem hok_slices_Clip_impl_Triangle_impl_Triangle : HOK Try.prog h_slices_Clip_impl_Triangle_impl_Triangle := hok0
theorem c_slices_Clip_impl_Triangle_impl_Triangle (l : List Tr) (n : Nat) (full : Bool) (hn : n ≤ l.length) : HCall Try.prog 50 [.ref 1000 0 n full] (sm ([(1000, .arr 3 31 (encTs l))])) (.ref 1000 0 n false) (sm ([(1000, .arr 3 31 (encTs l))])) := by
  refine hcall_V (G := g_slices_Clip_impl_Triangle_impl_Triangle) (H := []) [] tabOK mixed gok_slices_Clip_impl_Triangle_impl_Triangle hok_slices_Clip_impl_Triangle_impl_Triangle Try.func50 rfl Try.ntmps50 Try.results50 rfl (by kernel_rfl) fun F hN hlen => ?_
  simp only [sm]
  simp only [V_seq, V_ret, V_region, W_nil, W_cons, effOp2, KN_seq, KXr_nil, QE, effOp, effPure, Option.isSome_some, pureV, sliceV, lenV, ofC, strip, lkT, lkH, ISt.app, opI, gO, gB, allB, gval, wrapG, dstOK, setD, enumT, conv, conv0, Op.operands, Call.operands, List.append_toArray, Array.append_empty, Option.toArray_none, Option.toArray_some, reduceIte, reduceCtorEq, Nat.reduceLT, Nat.reduceEqDiff, ne_eq, not_false_eq_true, true_and, and_true, and_self, false_implies, implies_true, forall_const, List.map_cons, List.map_nil, List.nil_append, List.cons_append, Option.map_some, Option.map_none, Bool.false_eq_true, tab25, tab31, hN, Int.toNat_natCast, FinH, resA, resV, SLe, SLe0, convTm, convHp, convB]
  exact ⟨⟨by omega, by omega⟩, fun i => i, by simp, fun _ _ _ => rfl⟩
def hs_slices_Clip_impl_Triangle_impl_Triangle : HSpec := ⟨[false], fun xs hp => match xs, hp with | [.ref 1000 0 n full], [(1000, .arr 3 ty es)] => (isTs es) ∧ (ty = 31) ∧ ((fun (l : List Tr) (n : Nat) (full : Bool) => n ≤ l.length) (toTs es) n full) | _, _ => False, fun xs hp => match xs, hp with | [.ref 1000 0 n full], [(1000, .arr 3 ty es)] => (fun (l : List Tr) (n : Nat) (full : Bool) => (.ref 1000 0 n false : IV)) (toTs es) n full | _, _ => .junk, fun xs hp => match xs, hp with | [.ref 1000 0 n full], [(1000, .arr 3 ty es)] => (fun (l : List Tr) (n : Nat) (full : Bool) => ([(1000, .arr 3 31 (encTs l))] : List (Nat × IBlk))) (toTs es) n full | _, _ => []⟩
theorem hk_slices_Clip_impl_Triangle_impl_Triangle : ∀ args hp, hs_slices_Clip_impl_Triangle_impl_Triangle.pre args hp → HCall Try.prog 50 args (sm hp) (hs_slices_Clip_impl_Triangle_impl_Triangle.val args hp) (sm (hs_slices_Clip_impl_Triangle_impl_Triangle.hval args hp)) := by
  intro args hp h
  unfold hs_slices_Clip_impl_Triangle_impl_Triangle at h ⊢; simp only at h ⊢; split at h
  · obtain ⟨h1, rfl, h2⟩ := h; obtain ⟨l, rfl⟩ := isT_ex h1; rw [toTs_enc] at *; exact c_slices_Clip_impl_Triangle_impl_Triangle l _ _ h2
  · exact h.elim
theorem en_slices_Clip_impl_Triangle_impl_Triangle : Enters Try.prog 50 := enters_of Try.func50 (by kernel_rfl) rfl

theorem site_facts {l : List Pt} (h : siteB l = true) : okPs l = true ∧ Asc l ∧ insP l = l := by
  simp only [siteB, Bool.and_eq_true, beq_iff_eq] at h
  exact ⟨h.1, asc_ins.1 h.2, h.2.symm⟩
/-- The first point off the line. -/
def fGo (l : List Pt) : Nat → Nat → Nat
  | 0, n => n
  | k + 1, n => if turn (pA l 0) (pA l 1) (pA l n) = 0 then fGo l k (n + 1) else n
theorem fGo_eq {l : List Pt} {N : Nat} : ∀ k n, n ≤ N → N ≤ n + k → (∀ j, n ≤ j → j < N → turn (pA l 0) (pA l 1) (pA l j) = 0) → (N < n + k → turn (pA l 0) (pA l 1) (pA l N) ≠ 0) → fGo l k n = N
  | 0, n, h1, h2, _, _ => by rw [fGo]; omega
  | k + 1, n, h1, h2, h3, h4 => by
    rw [fGo]
    rcases Nat.lt_or_ge n N with c | c
    · rw [if_pos (h3 n (Nat.le_refl _) c)]
      exact fGo_eq k (n + 1) (by omega) (by omega) (fun j a b => h3 j (by omega) b) (fun a => h4 (by omega))
    · have : n = N := by omega
      subst this
      rw [if_neg (h4 (by omega))]
def fstN (l : List Pt) : Nat := fGo l (l.length - 2) 2
theorem fstN_facts {l : List Pt} (h2 : 2 ≤ l.length) : 2 ≤ fstN l ∧ fstN l ≤ l.length ∧ onL l (fstN l) ∧ (fstN l < l.length → turn (pA l 0) (pA l 1) (pA l (fstN l)) ≠ 0) := by
  obtain ⟨N, h1, h3, h4, h5⟩ := first_off h2
  have : fstN l = N := fGo_eq _ _ h1 (by omega) (fun j _ hj => h4 j hj) (fun h => h5 (by omega))
  rw [this]; exact ⟨h1, h3, h4, h5⟩
/-- The triangles of a sweep. -/
def sweepP (l : List Pt) : List Tr := if l.length < 2 then [] else (swp l (fstN l) (l.length - fstN l)).1
theorem coll_site {l : List Pt} (h : siteB l = true) : collB l = if l.length < 2 then true else decide (fstN l = l.length) := by
  obtain ⟨hk, ha, hi⟩ := site_facts h
  unfold collB
  rw [hi]
  rcases Nat.lt_or_ge l.length 2 with c | c
  · rw [if_pos c]
    simp only [Bool.not_eq_true', List.any_eq_false]
    intro p hp
    have hpos := List.length_pos_of_mem hp
    have e1 : l.length - 1 = 0 := by omega
    simp only [offL, bne_iff_ne, ne_eq, Decidable.not_not, e1]
    unfold turn; grind
  · rw [if_neg (by omega)]
    obtain ⟨f1, f2, f3, f4⟩ := fstN_facts c
    rw [Bool.eq_iff_iff]
    simp only [Bool.not_eq_true', List.any_eq_false, decide_eq_true_eq]
    constructor
    · intro hh
      have : onL l l.length := (coll_onL ha c).1 fun i hi => by
        have := hh _ (pA_mem hi)
        simpa [offL] using this
      rcases Nat.lt_or_ge (fstN l) l.length with q | q
      · exact absurd (this _ q) (f4 q)
      · omega
    · intro hh p hp
      obtain ⟨i, hi, rfl⟩ := mem_pA hp
      have := (coll_onL ha c).2 (by rw [← hh]; rw [hh]; rw [hh] at f3; exact f3) i hi
      simpa [offL] using this
theorem encBl_rep (m : Nat) : List.replicate m (IV.bool false) = encBl (List.replicate m false) := by simp [encBl]
/-- What is seen of the edges of a ring, of the first i. -/
def seenN (l : List Pt) (r : List Nat) (n i : Nat) : List Bool := (List.range i).map (seenB l r n) ++ List.replicate (r.length - i) false
theorem seenN_len {l : List Pt} {r : List Nat} {n i : Nat} (h : i ≤ r.length) : (seenN l r n i).length = r.length := by simp [seenN]; omega
theorem seenN_set {l : List Pt} {r : List Nat} {n i : Nat} (h : i < r.length) : (seenN l r n i).set i (seenB l r n i) = seenN l r n (i + 1) := by
  unfold seenN
  rw [List.set_append_right _ _ (by simp), List.length_map, List.length_range, Nat.sub_self, show r.length - i = (r.length - (i + 1)) + 1 by omega, List.replicate_succ, List.set_cons_zero, List.range_succ, List.map_append, List.append_assoc]
  rfl
theorem seenN_at {l : List Pt} {r : List Nat} {n i : Nat} (h : i < r.length) : (seenN l r n r.length).getD i false = seenB l r n i := by
  unfold seenN
  rw [Nat.sub_self, List.replicate_zero, List.append_nil]
  simp [List.getD, h]
def ring0 (N k : Nat) : List Nat := List.range N ++ (List.range k).map fun i => N - 2 - i
theorem ring0_succ (N k : Nat) : ring0 N (k + 1) = ring0 N k ++ [N - 2 - k] := by simp [ring0, List.range_succ]
theorem ring0_len (N k : Nat) : (ring0 N k).length = N + k := by simp [ring0]
theorem swp_zero (l : List Pt) (N : Nat) : swp l N 0 = ([], ring0 N (N - 2)) := rfl
def g_impl_sweep : List (Nat × PSpec) := [(48, sp_impl_collinear), (49, sp_impl_turn)]
theorem gok_impl_sweep : GOK Try.prog g_impl_sweep := gok_cons gk_impl_collinear en_impl_collinear (gok_cons gk_impl_turn en_impl_turn (gok0))
theorem lk_impl_sweep_impl_collinear : lkG g_impl_sweep 48 = sp_impl_collinear := rfl
theorem lk_impl_sweep_impl_turn : lkG g_impl_sweep 49 = sp_impl_turn := rfl
def h_impl_sweep : List (Nat × HSpec) := [(50, hs_slices_Clip_impl_Triangle_impl_Triangle)]
theorem hok_impl_sweep : HOK Try.prog h_impl_sweep := hok_cons hk_slices_Clip_impl_Triangle_impl_Triangle en_slices_Clip_impl_Triangle_impl_Triangle (hok0)
theorem lh_impl_sweep_impl_collinear : lkHS h_impl_sweep 48 = none := rfl
theorem lh_impl_sweep_impl_turn : lkHS h_impl_sweep 49 = none := rfl
theorem lh_impl_sweep_slices_Clip_impl_Triangle_impl_Triangle : lkHS h_impl_sweep 50 = some hs_slices_Clip_impl_Triangle_impl_Triangle := rfl
theorem c_impl_sweep (l : List Pt) (hs : siteB l = true) : HCall Try.prog 23 [.sl 2 (encPs l)] (sm ([])) (.ref 0 0 (sweepP l).length false) (sm ([(0, .arr 3 31 (encTs (sweepP l)))])) := by
  refine hcall_V (G := g_impl_sweep) (H := h_impl_sweep) [(5, [(0, 10), (1, 10), (3, 10), (4, 10), (6, 10), (7, 10), (8, 10)]), (25, [(0, 14), (1, 14), (2, 14), (3, 14), (4, 14), (6, 14), (7, 14), (8, 14), (10, 14), (11, 14), (12, 14)])] tabOK mixed gok_impl_sweep hok_impl_sweep Try.func23 rfl Try.ntmps23 Try.results23 rfl (by kernel_rfl) fun F hN hlen => ?_
  simp only [sm]
  obtain ⟨hk, hasc, hins⟩ := site_facts hs
  have hm := okPs_sm hk
  have h20 := okPs_len hk
  have hz : l.length ≤ 1000000 := by omega
  have el := len_encPs l
  have hcol := coll_site hs
  cases hc : collB l with
  | true =>
    have hv : sweepP l = [] := by
      unfold sweepP
      split
      · rfl
      · rename_i h2
        rw [hc, if_neg h2] at hcol
        have : fstN l = l.length := by simpa using hcol.symm
        rw [this, Nat.sub_self]; rfl
    have e0 : encTs [] = [] := rfl
    simp only [V_seq, V_ret, V_region, V_cond, brW_true, W_nil, W_cons, effOp2, KN_seq, KXr_nil, KXr_seq, QE, asB, effOp, effPure, effNew, effBuildSlice, effFrz, frz, tmpsOf, effCall, giveUp, hasAll, Option.isSome_some, skipE, pureV, ofC, strip, lkT, lkH, ISt.app, opI, gO, gB, allB, gval, wrapG, dstOK, setD, mentTm, mentHp, IV.ment, partsL, eltsI, lendV, lendP, lent, lentP, idsV, idsL, flat, clean, callArgs, callFn, allLent, enumT, conv, conv0, Op.operands, reduceIte, reduceCtorEq, cond_true, Bool.or_false, Bool.not_true, Nat.reduceMul, Nat.reduceLT, Nat.reduceLeDiff, Nat.reduceEqDiff, ne_eq, not_false_eq_true, true_and, and_true, and_self, implies_true, List.map_cons, List.map_nil, List.nil_append, List.cons_append, List.append_nil, List.length_nil, ex_clo, or_self, Bool.false_eq_true, tab25, tab31, hN, isPs_enc, toPs_enc, FinH, resA, resV, SLe, SLe0, convTm, convHp, convB, Option.isSome_some, List.nodup_nil, List.nodup_cons, List.not_mem_nil, lk_impl_sweep_impl_collinear, sp_impl_collinear, lh_impl_sweep_impl_collinear, hm, hz, hc, hv, e0]
    exact ⟨fun x => if x = 0 then 17 else x, by simp; omega⟩
  | false =>
    have h2 : 2 ≤ l.length := by
      rcases Nat.lt_or_ge l.length 2 with c | c
      · rw [if_pos c, hc] at hcol; cases hcol
      · exact c
    obtain ⟨f1, f2, f3, f4⟩ := fstN_facts h2
    rw [hc, if_neg (by omega)] at hcol
    have hne : fstN l ≠ l.length := by simpa using hcol.symm
    have hv : sweepP l = (swp l (fstN l) (l.length - fstN l)).1 := by unfold sweepP; rw [if_neg (by omega)]
    have hf4 := f4 (by omega)
    obtain ⟨N, hNN⟩ : ∃ N, fstN l = N := ⟨_, rfl⟩
    rw [hNN] at f1 f2 f3 hf4 hne hv
    clear f4
    have g0 := getD_encPs (show 0 < l.length by omega)
    have g0' : (encPs l).getD (Int.toNat 0) .junk = .agg [.num .i64 (pAt l 0).1, .num .i64 (pAt l 0).2] := g0
    have g1 := getD_encPs (show 1 < l.length by omega)
    have g1' : (encPs l).getD (Int.toNat 1) .junk = .agg [.num .i64 (pAt l 1).1, .num .i64 (pAt l 1).2] := g1
    have s0 := hm.at 0
    have s1 := hm.at 1
    simp only [V_seq, V_skip, V_block, V_region, V_cond, brW_false, W_nil, W_cons, effOp2, KN_seq, asB, effOp, effPure, effNew, effBuildSlice, effFrz, frz, tmpsOf, effCall, giveUp, hasAll, skipE, pureV, ofC, strip, lkT, lkH, ISt.app, opI, gO, gB, allB, gval, wrapG, dstOK, setD, mentTm, mentHp, IV.ment, partsL, eltsI, lendV, lendP, lent, lentP, idsV, idsL, flat, clean, callArgs, callFn, allLent, enumT, Op.operands, reduceIte, reduceCtorEq, cond_true, Bool.or_false, Bool.not_true, Nat.reduceMul, Nat.reduceLT, Nat.reduceLeDiff, Nat.reduceEqDiff, ne_eq, not_false_eq_true, true_and, and_self, implies_true, List.map_cons, List.map_nil, List.nil_append, List.cons_append, List.append_nil, List.length_nil, ex_clo, or_self, tab25, tab31, hN, isPs_enc, toPs_enc, lk_impl_sweep_impl_collinear, sp_impl_collinear, lh_impl_sweep_impl_collinear, hm, hz, hc]
    refine V_loop (α := Nat) ⟨tabOK, mixed, gok_impl_sweep, hok_impl_sweep⟩ (by kernel_rfl) (fun n => 2 ≤ n ∧ n ≤ N) (fun n => ⟨[(4, .num .i64 n), (3, .ref 17 0 0 true), (0, .sl 2 (encPs l))], [(17, some (.arr 3 31 []))]⟩) (fun n => N - n) 2 id ⟨Nat.le_refl _, f1⟩ (by simp [SLe, SLe0, convTm, convHp, convB, conv, conv0, lkT, lkH, clean]) ?_
    rintro n ⟨n1, n2⟩
    have g3 := getD_encPs (show n < l.length by omega)
    have s3 := hm.at n
    have p0 : pAt l 0 = pA l 0 := rfl
    have p1 : pAt l 1 = pA l 1 := rfl
    have p3 : pAt l n = pA l n := rfl
    cases c1 : (turn (pAt l 0) (pAt l 1) (pAt l n) == 0) with
    | true =>
      have hlt : n < N := by
        rcases Nat.lt_or_ge n N with q | q
        · exact q
        · exfalso
          rw [show n = N by omega] at c1
          exact hf4 (by simpa using c1)
      have hw : IntKind.i64.wrap (((n : Nat) : Int) + 1) = ((n + 1 : Nat) : Int) := by rw [wr (by omega) (by omega)]; omega
      simp only [V_seq, V_skip, V_block, V_region, V_draw, V_cond, brW_true, drawW, WS_nil, pairsOf, W_nil, W_cons, effOp2, effOp3, WI_nil, WI_cons, KN_seq, KN_block, KN_back, dynOK, indB, farB, freshB, freshK, freshK1, heapy, asB, effOp, effPure, effCall, giveUp, hasAll, pureV, binV, partV, eltV, loadV, iaddrV, ofC, strip, lkT, lkH, ISt.app, opI, gO, gB, allB, gval, wrapG, dstOK, setD, mentTm, mentHp, IV.ment, lendV, lendP, lent, lentP, idsV, idsL, flat, clean, callArgs, callFn, allLent, Op.operands, Call.operands, List.append_toArray, reduceIte, reduceCtorEq, cond_true, cond_false, Bool.or_false, Bool.and_true, Bool.and_eq_true, Bool.not_true, Bool.not_false, Nat.reduceAdd, Nat.reduceLT, Nat.reduceLeDiff, Nat.reduceEqDiff, Nat.reduceBEq, Nat.zero_add, ne_eq, not_false_eq_true, true_and, and_true, and_false, and_self, implies_true, forall_const, List.map_cons, List.map_nil, List.nil_append, List.cons_append, List.append_nil, List.getD_cons_zero, List.getD_cons_succ, List.length_cons, List.length_nil, List.take_succ_cons, List.take_zero, List.take_nil, List.drop_zero, ex_clo, or_self, tab23, tab34, hN, pe, Int.toNat_natCast, lk_impl_sweep_impl_turn, sp_impl_turn, lh_impl_sweep_impl_turn, el, g0', g1', g3, s0, s1, s3, c1, hw]
      repeat refine And.intro (by first | omega | (simp; done) | (simp; omega)) ?_
      exact ⟨n + 1, id, ⟨by omega, by omega⟩, by simp only []; omega, by simp [SLe, SLe0, convTm, convHp, convB, conv, conv0, lkT, lkH, clean]⟩
    | false =>
      have hnN : n = N := by
        rcases Nat.lt_or_ge n N with q | q
        · have := f3 n q
          rw [← p0, ← p1, ← p3] at this
          rw [this] at c1; cases c1
        · omega
      subst hnN
      simp only [V_seq, V_exit, V_block, V_region, V_draw, V_cond, brW_false, drawW, WS_nil, pairsOf, W_nil, W_cons, effOp2, effOp3, WI_nil, WI_cons, KN_seq, KXe_nil, KXe_seq, KXe_block, KXe_back, QE, dynOK, indB, farB, freshB, freshK, freshK1, heapy, asB, effOp, effPure, effNew, effBuildSlice, effFrz, frz, tmpsOf, effCall, giveUp, hasAll, skipE, pureV, binV, partV, eltV, loadV, iaddrV, ofC, strip, lkT, lkH, ISt.app, opI, gO, gB, allB, gval, wrapG, dstOK, setD, mentTm, mentHp, IV.ment, IV.mentL, partsL, eltsI, lendV, lendP, lent, lentP, idsV, idsL, flat, clean, callArgs, callFn, allLent, Op.operands, Call.operands, List.append_toArray, reduceIte, reduceCtorEq, cond_true, cond_false, Bool.or_false, Bool.and_true, Bool.and_eq_true, Bool.not_true, Bool.not_false, Nat.reduceAdd, Nat.reduceMul, Nat.reduceLT, Nat.reduceLeDiff, Nat.reduceEqDiff, Nat.reduceBEq, Nat.zero_add, ne_eq, not_false_eq_true, true_and, and_true, and_false, and_self, implies_true, forall_const, List.map_cons, List.map_nil, List.nil_append, List.cons_append, List.append_nil, List.getD_cons_zero, List.getD_cons_succ, List.length_cons, List.length_nil, List.take_succ_cons, List.take_zero, List.take_nil, List.drop_zero, ex_clo, or_self, tab3, tab23, tab34, tab55, hN, pe, Int.toNat_natCast, FinH, lk_impl_sweep_impl_turn, sp_impl_turn, lh_impl_sweep_impl_turn, el, g0', g1', g3, s0, s1, s3, c1]
      repeat refine And.intro (by first | omega | (simp; done) | (simp; omega)) ?_
      refine V_loop (α := Nat) ⟨tabOK, mixed, gok_impl_sweep, hok_impl_sweep⟩ (by kernel_rfl) (fun i => i ≤ n) (fun i => ⟨[(37, .num .i64 i), (36, .num .i64 n), (5, .ref 35 0 i true), (4, .num .i64 n), (3, .ref 17 0 0 true), (0, .sl 2 (encPs l))], [(35, some (.arr 1 3 (encN (List.range i)))), (17, some (.arr 3 31 []))]⟩) (fun i => n - i) 0 id (Nat.zero_le _) (by simp [SLe, SLe0, convTm, convHp, convB, conv, conv0, lkT, lkH, clean, encN, encI]) ?_
      intro i hi
      have er : (encN (List.range i)).length = i := by rw [len_encN, List.length_range]
      have hx : ∃ k ty es, IBlk.arr 1 3 (encN (List.range i)) = IBlk.arr k ty es := ⟨_, _, _, rfl⟩
      simp only [V_seq, V_region, V_cond, W_nil, W_cons, effOp2, KN_seq, asB, effOp, effPure, pureV, binV, strip, lkT, ISt.app, opI, gO, gB, allB, gval, wrapG, dstOK, setD, Op.operands, reduceIte, reduceCtorEq, Nat.reduceLT, Nat.reduceEqDiff, true_and, and_self, implies_true, List.nil_append, List.cons_append, hN]
      refine brW_some (fun h => ?_) (fun h => ?_)
      · have hi' : i < n := by simpa using h
        have hw := wr_succ (show i < l.length by omega) (by rw [maxLen_eq]; omega)
        have hen : encN (List.range (i + 1)) = (encN (List.range i)).take i ++ [IV.num .i64 ((i : Nat) : Int)] := by
          rw [List.range_succ, ← encN_app, List.take_of_length_le (by omega)]; rfl
        simp only [V_seq, V_skip, V_block, V_region, W_nil, W_cons, effOp2, KN_seq, KN_block, KN_back, effOp, effPure, effNew, effBuildSlice, effFrz, frz, tmpsOf, effAppend, effZeros, skipE, pureV, srcV, refId, binV, ofC, strip, lkT, lkH, ISt.app, opI, gO, gB, allB, gval, wrapG, dstOK, setD, mentTm, mentHp, IV.ment, partsL, eltsI, eltI, noId', Op.operands, reduceIte, reduceCtorEq, cond_true, Bool.or_false, Nat.reduceMul, Nat.reduceLT, Nat.reduceLeDiff, Nat.reduceEqDiff, Nat.reduceBEq, Nat.zero_add, ne_eq, not_false_eq_true, true_and, and_true, and_self, implies_true, List.nil_append, List.cons_append, List.append_nil, Option.some.injEq, List.length_cons, List.length_nil, List.take_succ_cons, List.take_nil, List.drop_zero, tab3, tab55, hN, er, hw]
        repeat refine And.intro (by first | omega | (simp; done) | (simp; omega)) ?_
        refine ⟨i + 1, fun x => if x = 35 then 43 else x, by simp only []; omega, by simp only []; omega, ?_⟩
        simp only [hen]
        simp [SLe, SLe0, convTm, convHp, convB, conv, conv0, lkT, lkH, clean]
        exact ⟨(List.take_of_length_le (by rw [List.length_append, List.length_take]; exact Nat.le_refl _)).symm, fun id a c d => by omega⟩
      · have hie : i = n := by simp at h; omega
        subst hie
        have w0 : IntKind.i64.wrap (((i : Nat) : Int) - 2) = ((i - 2 - 0 : Nat) : Int) := by rw [wr (by omega) (by omega)]; omega
        simp only [V_seq, V_exit, V_block, V_region, W_nil, W_cons, effOp2, KN_seq, KXe_nil, KXe_seq, KXe_block, KXe_back, QE, effOp, effPure, pureV, binV, ofC, strip, lkT, ISt.app, opI, gO, gB, allB, gval, wrapG, dstOK, setD, Op.operands, reduceIte, reduceCtorEq, Nat.reduceLT, Nat.reduceEqDiff, true_and, and_self, implies_true, List.nil_append, List.cons_append, hN, FinH, w0]
        refine V_loop (α := Nat) ⟨tabOK, mixed, gok_impl_sweep, hok_impl_sweep⟩ (by kernel_rfl) (fun k => k ≤ i - 2) (fun k => ⟨[(7, .num .i64 ((i - 2 - k : Nat) : Int)), (5, .ref 35 0 (i + k) true), (4, .num .i64 i), (3, .ref 17 0 0 true), (0, .sl 2 (encPs l))], [(35, some (.arr 1 3 (encN (ring0 i k)))), (17, some (.arr 3 31 []))]⟩) (fun k => i - 2 - k) 0 id (Nat.zero_le _) (by simp [SLe, SLe0, convTm, convHp, convB, conv, conv0, lkT, lkH, clean, ring0]) ?_
        intro k hk2
        have er : (encN (ring0 i k)).length = i + k := by rw [len_encN, ring0_len]
        have hx : ∃ k' ty es, IBlk.arr 1 3 (encN (ring0 i k)) = IBlk.arr k' ty es := ⟨_, _, _, rfl⟩
        simp only [V_seq, V_region, V_cond, W_nil, W_cons, effOp2, KN_seq, asB, effOp, effPure, pureV, binV, ofC, strip, lkT, ISt.app, opI, gO, gB, allB, gval, wrapG, dstOK, setD, Op.operands, reduceIte, reduceCtorEq, Nat.reduceLT, Nat.reduceEqDiff, true_and, and_self, implies_true, List.nil_append, List.cons_append, hN]
        refine brW_some (fun h => ?_) (fun h => ?_)
        · have hk3 : k < i - 2 := by simp at h; omega
          have w1 : IntKind.i64.wrap (((i - 2 - k : Nat) : Int) - 1) = ((i - 2 - (k + 1) : Nat) : Int) := by rw [wr (by omega) (by omega)]; omega
          have hen : encN (ring0 i (k + 1)) = (encN (ring0 i k)).take (i + k) ++ [IV.num .i64 ((i - 2 - k : Nat) : Int)] := by
            rw [ring0_succ, ← encN_app, List.take_of_length_le (by omega)]; rfl
          simp only [V_seq, V_skip, V_block, V_region, W_nil, W_cons, effOp2, KN_seq, KN_block, KN_back, effOp, effPure, effNew, effBuildSlice, effFrz, frz, tmpsOf, effAppend, effZeros, skipE, pureV, srcV, refId, binV, ofC, strip, lkT, lkH, ISt.app, opI, gO, gB, allB, gval, wrapG, dstOK, setD, mentTm, mentHp, IV.ment, partsL, eltsI, eltI, noId', Op.operands, reduceIte, reduceCtorEq, cond_true, Bool.or_false, Nat.reduceMul, Nat.reduceLT, Nat.reduceLeDiff, Nat.reduceEqDiff, Nat.reduceBEq, Nat.zero_add, ne_eq, not_false_eq_true, true_and, and_true, and_self, implies_true, List.nil_append, List.cons_append, List.append_nil, Option.some.injEq, List.length_cons, List.length_nil, List.take_succ_cons, List.take_nil, List.drop_zero, tab3, tab55, hN, er, w1]
          repeat refine And.intro (by first | omega | (simp; done) | (simp; omega)) ?_
          refine ⟨k + 1, fun x => if x = 35 then 54 else x, by simp only []; omega, by simp only []; omega, ?_⟩
          simp only [hen]
          simp [SLe, SLe0, convTm, convHp, convB, conv, conv0, lkT, lkH, clean]
          exact ⟨⟨by omega, (List.take_of_length_le (by rw [List.length_append, List.length_take]; exact Nat.le_refl _)).symm⟩, fun id a c d => by omega⟩
        · have hke : k = i - 2 := by simp at h; omega
          subst hke
          have hz0 := swp_zero l i
          have hr0 : (ring0 i (i - 2)).length = i + (i - 2) := ring0_len _ _
          simp only [V_seq, V_exit, V_block, KN_seq, KXe_nil, KXe_seq, KXe_block, KXe_back, QE, reduceIte, FinH]
          refine V_loop (α := Nat) ⟨tabOK, mixed, gok_impl_sweep, hok_impl_sweep⟩ (by kernel_rfl) (fun k => i + k ≤ l.length) (fun k => ⟨[(5, .ref 35 0 (swp l i k).2.length true), (4, .num .i64 ((i + k : Nat) : Int)), (3, .ref 17 0 (swp l i k).1.length true), (0, .sl 2 (encPs l))], [(35, some (.arr 1 3 (encN (swp l i k).2))), (17, some (.arr 3 31 (encTs (swp l i k).1)))]⟩) (fun k => l.length - k) 0 id (by omega) (by simp [SLe, SLe0, convTm, convHp, convB, conv, conv0, lkT, lkH, clean, hz0, hr0, encTs]) ?_
          intro k hk4
          obtain ⟨hb1, hb2, hb3⟩ := swp_bd (l := l) f1 k
          have hpw := pow_20 (n := i + k) (by omega)
          have hS : swp l i (k + 1) = ((swp l i k).1 ++ triL l (swp l i k).2 (i + k) (swp l i k).2.length, nxtL l (swp l i k).2 (i + k) (swp l i k).2.length) := rfl
          obtain ⟨o, ho⟩ : ∃ o, (swp l i k).1 = o := ⟨_, rfl⟩
          obtain ⟨r, hr⟩ : ∃ r, (swp l i k).2 = r := ⟨_, rfl⟩
          rw [ho, hr] at hS
          rw [hr] at hb1 hb3
          rw [ho] at hb2
          have hfin : i + k = l.length → sweepP l = o := fun e => by rw [hv, show l.length - i = k by omega, ho]
          simp only [ho, hr]
          have eo := len_encTs o
          have er := len_encN r
          have hx5 : ∃ k' ty es, IBlk.arr 1 3 (encN r) = IBlk.arr k' ty es := ⟨_, _, _, rfl⟩
          have hx7 : ∃ k' ty es, IBlk.arr 3 31 (encTs o) = IBlk.arr k' ty es := ⟨_, _, _, rfl⟩
          simp only [V_seq, V_region, V_cond, W_nil, W_cons, effOp2, KN_seq, asB, effOp, effPure, pureV, binV, lenV, strip, lkT, ISt.app, opI, gO, gB, allB, gval, wrapG, dstOK, setD, Op.operands, Call.operands, List.append_toArray, reduceIte, reduceCtorEq, Nat.reduceLT, Nat.reduceEqDiff, ne_eq, not_false_eq_true, true_and, and_self, implies_true, List.nil_append, List.cons_append, tab23, hN, el]
          refine brW_some (fun h => ?_) (fun h => ?_)
          · have hlt : i + k < l.length := by simp at h; omega
            have hwn : IntKind.i64.wrap (((i + k : Nat) : Int) + 1) = ((i + (k + 1) : Nat) : Int) := by rw [wr (by omega) (by omega)]; omega
            have gn := getD_encPs hlt
            have sn := hm.at (i + k)
            obtain ⟨q, hq⟩ : ∃ q, i + k = q := ⟨_, rfl⟩
            rw [hq] at hlt hwn gn sn hS hb3 ⊢
            have pn : pAt l q = pA l q := rfl
            rw [pn] at gn sn
            have hs0 : seenN l r q 0 = List.replicate r.length false := by simp [seenN]
            simp only [V_seq, V_skip, V_block, V_region, W_nil, W_cons, effOp2, KN_seq, effOp, effPure, effNew, effMake, skipE, pureV, lenV, ofC, strip, lkT, ISt.app, opI, gO, gB, allB, gval, wrapG, dstOK, setD, mentTm, mentHp, IV.ment, zeroElt, noId', Op.operands, Call.operands, List.append_toArray, reduceIte, reduceCtorEq, cond_true, Bool.or_false, Nat.reduceLT, Nat.reduceLeDiff, Nat.reduceEqDiff, Nat.reduceBEq, ne_eq, not_false_eq_true, true_and, and_self, implies_true, List.nil_append, List.cons_append, tab4, tab55, tab67, hN, Int.toNat_natCast]
            repeat refine And.intro (by first | omega | (simp; done) | (simp; omega)) ?_
            refine V_loop (α := Nat) ⟨tabOK, mixed, gok_impl_sweep, hok_impl_sweep⟩ (by kernel_rfl) (fun j => j ≤ r.length) (fun j => ⟨[(67, .num .i64 j), (66, .num .i64 r.length), (65, .ref 35 0 r.length true), (9, .ref 64 0 r.length true), (8, .num .i64 r.length), (5, .ref 35 0 r.length true), (4, .num .i64 q), (3, .ref 17 0 (o ++ triL l r q j).length true), (0, .sl 2 (encPs l))], [(64, some (.arr 1 4 (encBl (seenN l r q j)))), (35, some (.arr 1 3 (encN r))), (17, some (.arr 3 31 (encTs (o ++ triL l r q j))))]⟩) (fun j => r.length - j) 0 id (Nat.zero_le _) (by simp [SLe, SLe0, convTm, convHp, convB, conv, conv0, lkT, lkH, clean, hs0, triL, encBl]) ?_
            intro j hj
            have et := len_encTs (o ++ triL l r q j)
            have esn : (encBl (seenN l r q j)).length = r.length := by rw [len_encBl, seenN_len hj]
            have hx64 : ∃ k' ty es, IBlk.arr 1 4 (encBl (seenN l r q j)) = IBlk.arr k' ty es := ⟨_, _, _, rfl⟩
            have hx17 : ∃ k' ty es, IBlk.arr 3 31 (encTs (o ++ triL l r q j)) = IBlk.arr k' ty es := ⟨_, _, _, rfl⟩
            have htl := triL_len l r q j
            simp only [V_seq, V_region, V_cond, W_nil, W_cons, effOp2, KN_seq, asB, effOp, effPure, pureV, binV, strip, lkT, ISt.app, opI, gO, gB, allB, gval, wrapG, dstOK, setD, Op.operands, reduceIte, reduceCtorEq, Nat.reduceLT, Nat.reduceEqDiff, true_and, and_self, implies_true, List.nil_append, List.cons_append, hN]
            refine brW_some (fun h => ?_) (fun h => ?_)
            · have hj' : j < r.length := by simpa using h
              have hwj := wr_succ hj' (by rw [maxLen_eq]; omega)
              have hmj : (j + 1) % r.length < r.length := Nat.mod_lt _ (by omega)
              have t1 : ((j + 1 : Nat) : Int).tmod (r.length : Int) = (((j + 1) % r.length : Nat) : Int) := by rw [Int.tmod_eq_emod_of_nonneg (by omega)]; simp
              have d0 : ((r.length : Int) == 0) = false := by rw [beq_eq_false_iff_ne]; omega
              have k1 := getD_encN hj'
              have k2 := getD_encN hmj
              have m1 : nAt r j < l.length := by
                have : nAt r j ∈ r := by rw [nAt, List.getD, List.getElem?_eq_getElem hj']; exact List.getElem_mem _
                have := hb3 _ this; omega
              have m2 : nAt r ((j + 1) % r.length) < l.length := by
                have : nAt r ((j + 1) % r.length) ∈ r := by rw [nAt, List.getD, List.getElem?_eq_getElem hmj]; exact List.getElem_mem _
                have := hb3 _ this; omega
              have k3 := getD_encPs m1
              have k4 := getD_encPs m2
              have s3 := hm.at (nAt r j)
              have s4 := hm.at (nAt r ((j + 1) % r.length))
              have hse : seenB l r q j = decide (turn (pAt l (nAt r j)) (pAt l (nAt r ((j + 1) % r.length))) (pA l q) < 0) := rfl
              have htr : triL l r q (j + 1) = triL l r q j ++ if seenB l r q j then [(((nAt r ((j + 1) % r.length) : Nat) : Int), ((nAt r j : Nat) : Int), ((q : Nat) : Int))] else [] := rfl
              have hset : (encBl (seenN l r q j)).set j (.bool (seenB l r q j)) = encBl (seenN l r q (j + 1)) := by rw [encBl_set, seenN_set hj']
              have esn2 : (encBl (seenN l r q (j + 1))).length = r.length := by rw [len_encBl, seenN_len (by omega)]
              have hx65 : ∃ k' ty es, IBlk.arr 1 4 (encBl (seenN l r q (j + 1))) = IBlk.arr k' ty es := ⟨_, _, _, rfl⟩
              have k5 : (encBl (seenN l r q (j + 1))).getD j .junk = .bool (seenB l r q j) := by
                rw [getD_encBl (by rw [seenN_len (by omega)]; exact hj'), ← seenN_set hj']
                simp [List.getD, seenN_len (Nat.le_of_lt hj'), hj']
              generalize (j + 1) % r.length = jj at *
              generalize nAt r j = a at *
              generalize nAt r jj = b at *
              generalize pAt l a = A at *
              generalize pAt l b = B at *
              generalize pA l q = Q at *
              cases c1 : decide (turn A B Q < 0) with
              | false =>
                rw [c1] at hse
                rw [hse] at hset htr k5
                rw [if_neg (by decide), List.append_nil] at htr
                simp only [V_seq, V_skip, V_block, V_region, V_draw, V_cond, brW_false, drawW, WS_nil, pairsOf, W_nil, W_cons, effOp2, effOp3, WI_nil, WI_cons, KN_seq, KN_block, KN_back, dynOK, indB, farB, freshB, freshK, freshK1, heapy, asB, effOp, effPure, effStore, effCall, giveUp, hasAll, pureV, storeV, binV, partV, eltV, loadV, iaddrV, over, solid, IV.cells, ofC, strip, lkT, lkH, ISt.app, opI, gO, gB, allB, gval, wrapG, dstOK, setD, mentTm, mentHp, IV.ment, eltI, oneI, noId', lendV, lendP, lent, lentP, idsV, idsL, flat, clean, callArgs, callFn, allLent, Op.operands, Call.operands, List.append_toArray, reduceIte, reduceCtorEq, cond_true, cond_false, Bool.or_false, Bool.and_true, Bool.true_and, Bool.and_eq_true, Bool.not_true, Bool.not_false, Nat.reduceAdd, Nat.reduceLT, Nat.reduceLeDiff, Nat.reduceEqDiff, Nat.reduceBEq, Nat.zero_add, ne_eq, not_false_eq_true, true_and, and_true, false_and, and_false, and_self, implies_true, forall_const, List.map_cons, List.map_nil, List.nil_append, List.cons_append, List.append_nil, List.all_cons, List.getD_cons_zero, List.getD_cons_succ, List.length_cons, List.length_nil, List.take_succ_cons, List.take_zero, List.take_nil, List.drop_zero, ex_clo, or_self, tab3, tab4, tab23, tab34, tab55, tab67, hN, pe, Int.toNat_natCast, lk_impl_sweep_impl_turn, sp_impl_turn, lh_impl_sweep_impl_turn, el, er, esn, esn2, hwj, t1, k1, k2, k3, k4, k5, s3, s4, sn, gn, c1, hset]
                repeat refine And.intro (by first | omega | (simp; done) | (simp; omega)) ?_
                refine ⟨j + 1, id, by simp only []; omega, by simp only []; omega, ?_⟩
                simp only [htr]
                simp [SLe, SLe0, convTm, convHp, convB, conv, conv0, lkT, lkH, clean]
              | true =>
                rw [c1] at hse
                rw [hse] at hset htr k5
                rw [if_pos rfl] at htr
                have hen : encTs (o ++ triL l r q (j + 1)) = (encTs (o ++ triL l r q j)).take (o ++ triL l r q j).length ++ [IV.agg [.num .i64 ((b : Nat) : Int), .num .i64 ((a : Nat) : Int), .num .i64 ((q : Nat) : Int)]] := by
                  rw [htr, ← List.append_assoc, ← encTs_app, take_encTs]; rfl
                have hln : (o ++ triL l r q (j + 1)).length = (o ++ triL l r q j).length + 1 := by rw [htr, ← List.append_assoc, List.length_append]; rfl
                have hlo : (o ++ triL l r q j).length ≤ 2000000 := by rw [List.length_append]; omega
                simp only [V_seq, V_skip, V_block, V_region, V_draw, V_cond, brW_true, drawW, WS_nil, pairsOf, W_nil, W_cons, effOp2, effOp3, WI_nil, WI_cons, KN_seq, KN_block, KN_back, dynOK, indB, farB, freshB, freshK, freshK1, heapy, asB, effOp, effPure, effNew, effBuildSlice, effFrz, frz, tmpsOf, effStore, effAppend, effZeros, effCall, giveUp, hasAll, skipE, pureV, storeV, srcV, refId, binV, partV, eltV, loadV, iaddrV, over, solid, buildL, IV.cells, ofC, strip, lkT, lkH, ISt.app, opI, gO, gB, allB, gval, wrapG, dstOK, setD, mentTm, mentHp, IV.ment, IV.mentL, partsL, eltsI, eltI, oneI, noId', lendV, lendP, lent, lentP, idsV, idsL, flat, clean, callArgs, callFn, allLent, Op.operands, Call.operands, List.append_toArray, reduceIte, reduceCtorEq, cond_true, cond_false, Bool.or_false, Bool.and_true, Bool.true_and, Bool.and_eq_true, Bool.not_true, Bool.not_false, Nat.reduceAdd, Nat.reduceMul, Nat.reduceLT, Nat.reduceLeDiff, Nat.reduceEqDiff, Nat.reduceBEq, Nat.zero_add, ne_eq, not_false_eq_true, true_and, and_true, false_and, and_false, and_self, implies_true, forall_const, List.map_cons, List.map_nil, List.nil_append, List.cons_append, List.append_nil, List.all_cons, List.all_nil, Option.some.injEq, List.getD_cons_zero, List.getD_cons_succ, List.length_cons, List.length_nil, List.take_succ_cons, List.take_zero, List.take_nil, List.drop_succ_cons, List.drop_zero, List.drop_nil, ex_clo, or_self, tab3, tab4, tab23, tab25, tab31, tab34, tab55, tab67, hN, pe, Int.toNat_natCast, lk_impl_sweep_impl_turn, sp_impl_turn, lh_impl_sweep_impl_turn, el, er, et, esn, esn2, hwj, t1, k1, k2, k3, k4, k5, s3, s4, sn, gn, c1, hset]
                repeat refine And.intro (by first | omega | (simp; done) | (simp; omega)) ?_
                refine ⟨j + 1, fun x => if x = 17 then 106 else x, by simp only []; omega, by simp only []; omega, ?_⟩
                simp only [hen, hln]
                simp [SLe, SLe0, convTm, convHp, convB, conv, conv0, lkT, lkH, clean]
                exact ⟨(List.take_of_length_le (by rw [List.length_append, List.length_take]; exact Nat.le_refl _)).symm, fun id a c d => by omega⟩
            · have hje : j = r.length := by simp at h; omega
              subst hje
              simp only [V_seq, V_ret, V_exit, V_block, V_region, W_nil, W_cons, effOp2, KN_seq, KN_back, KXr_nil, KXe_nil, KXe_seq, KXe_block, KXe_back, QE, effOp, effPure, effNew, effBuildSlice, effFrz, frz, tmpsOf, Option.isSome_some, skipE, pureV, binV, lenV, ofC, strip, lkT, lkH, ISt.app, opI, gO, gB, allB, gval, wrapG, dstOK, setD, mentTm, mentHp, IV.ment, partsL, eltsI, idsV, idsL, callArgs, callFn, enumT, conv, conv0, IBlk.shape, Op.operands, Call.operands, List.append_toArray, reduceIte, reduceCtorEq, cond_true, cond_false, Bool.or_false, Bool.or_true, Bool.and_true, Nat.reduceAdd, Nat.reduceSub, Nat.reduceMul, Nat.reduceLT, Nat.reduceLeDiff, Nat.reduceEqDiff, Nat.reduceBEq, ne_eq, not_false_eq_true, beq_self_eq_true, true_and, and_true, and_false, and_self, false_implies, implies_true, List.map_cons, List.map_nil, List.nil_append, List.cons_append, List.append_nil, List.all_nil, Option.map_some, List.getD_cons_zero, List.length_nil, ex_clo, true_or, Bool.true_eq_false, Bool.false_eq_true, tab3, tab55, hN, isTs_enc, toTs_enc, FinH, resA, resV, SLe, SLe0, convTm, convHp, convB, sm, effH, mkHC0, mkHC1, lendM, lentM, lentI, allHere, addIds, idsB, flatIds, reach, posn, renV, renL, renB, renH, numB, subHp, fwd, bk, bwd, nones, keyOK, noSl, flatBs, List.contains, List.elem, Option.isSome_some, List.nodup_nil, List.nodup_cons, List.not_mem_nil, Option.getD_some, lh_impl_sweep_slices_Clip_impl_Triangle_impl_Triangle, hs_slices_Clip_impl_Triangle_impl_Triangle]
              refine V_loop (α := Nat) ⟨tabOK, mixed, gok_impl_sweep, hok_impl_sweep⟩ (by kernel_rfl) (fun j => j ≤ r.length) (fun j => ⟨[(111, .num .i64 j), (110, .num .i64 r.length), (109, .ref 35 0 r.length true), (13, .ref 108 0 (nxtL l r q j).length true), (9, .ref 64 0 r.length true), (8, .num .i64 r.length), (5, .ref 35 0 r.length true), (4, .num .i64 q), (3, .ref 17 0 (o ++ triL l r q r.length).length true), (0, .sl 2 (encPs l))], [(108, some (.arr 1 3 (encN (nxtL l r q j)))), (64, some (.arr 1 4 (encBl (seenN l r q r.length)))), (35, some (.arr 1 3 (encN r))), (17, some (.arr 3 31 (encTs (o ++ triL l r q r.length))))]⟩) (fun j => r.length - j) 0 id (Nat.zero_le _) (by simp [SLe, SLe0, convTm, convHp, convB, conv, conv0, lkT, lkH, clean, nxtL, encN_nil]) ?_
              intro j hj
              have en8 := len_encN (nxtL l r q j)
              have hx108 : ∃ k' ty es, IBlk.arr 1 3 (encN (nxtL l r q j)) = IBlk.arr k' ty es := ⟨_, _, _, rfl⟩
              have hnl := nxtL_len l r q j
              simp only [V_seq, V_region, V_cond, W_nil, W_cons, effOp2, KN_seq, asB, effOp, effPure, pureV, binV, strip, lkT, ISt.app, opI, gO, gB, allB, gval, wrapG, dstOK, setD, Op.operands, reduceIte, reduceCtorEq, Nat.reduceLT, Nat.reduceEqDiff, true_and, and_self, implies_true, List.nil_append, List.cons_append, hN]
              refine brW_some (fun h => ?_) (fun h => ?_)
              · have hj' : j < r.length := by simpa using h
                have hwj := wr_succ hj' (by rw [maxLen_eq]; omega)
                have w3 : IntKind.i64.wrap ((j : Int) + (r.length : Int)) = ((j + r.length : Nat) : Int) := by rw [wr (by omega) (by omega)]; omega
                have w4 : IntKind.i64.wrap (((j + r.length : Nat) : Int) - 1) = ((j + r.length - 1 : Nat) : Int) := by rw [wr (by omega) (by omega)]; omega
                have hmj : (j + r.length - 1) % r.length < r.length := Nat.mod_lt _ (by omega)
                have t1 : ((j + r.length - 1 : Nat) : Int).tmod (r.length : Int) = (((j + r.length - 1) % r.length : Nat) : Int) := by rw [Int.tmod_eq_emod_of_nonneg (by omega)]; simp
                have d0 : ((r.length : Int) == 0) = false := by rw [beq_eq_false_iff_ne]; omega
                have k1 := getD_encN hj'
                have k5 : (encBl (seenN l r q r.length)).getD j .junk = .bool (seenB l r q j) := by
                  rw [getD_encBl (by rw [seenN_len (Nat.le_refl _)]; exact hj'), seenN_at hj']
                have k6 : (encBl (seenN l r q r.length)).getD ((j + r.length - 1) % r.length) .junk = .bool (prvB l r q j) := by
                  rw [getD_encBl (by rw [seenN_len (Nat.le_refl _)]; exact hmj), seenN_at hmj]; rfl
                have hnx : nxtL l r q (j + 1) = (nxtL l r q j ++ if !prvB l r q j || !seenB l r q j then [nAt r j] else []) ++ if !prvB l r q j && seenB l r q j then [q] else [] := rfl
                generalize (j + r.length - 1) % r.length = jj at *
                generalize nAt r j = a at *
                cases z1 : prvB l r q j with
                | false =>
                  cases z2 : seenB l r q j with
                  | false =>
                    rw [z1, z2] at hnx
                    have hnx2 : nxtL l r q (j + 1) = nxtL l r q j ++ [a] := by rw [hnx]; simp
                    have hen : encN (nxtL l r q (j + 1)) = (encN (nxtL l r q j)).take (nxtL l r q j).length ++ [IV.num .i64 ((a : Nat) : Int)] := by rw [hnx2, ← encN_app, take_encN]; rfl
                    have hln : (nxtL l r q (j + 1)).length = (nxtL l r q j).length + 1 := by rw [hnx2, List.length_append]; rfl
                    simp only [V_seq, V_skip, V_block, V_region, V_cond, brW_true, brW_false, W_nil, W_cons, effOp2, KN_seq, KN_block, KN_back, asB, effOp, effPure, effPick, effNew, effBuildSlice, effFrz, frz, tmpsOf, effAppend, effZeros, skipE, pureV, pickV, srcV, refId, binV, eltV, loadV, iaddrV, ofC, strip, lkT, lkH, ISt.app, opI, gO, gB, allB, gval, wrapG, dstOK, setD, mentTm, mentHp, IV.ment, partsL, eltsI, eltI, noId', Op.operands, reduceIte, reduceCtorEq, cond_true, Bool.or_false, Bool.not_false, Nat.reduceMul, Nat.reduceLT, Nat.reduceLeDiff, Nat.reduceEqDiff, Nat.reduceBEq, Nat.zero_add, ne_eq, not_false_eq_true, beq_self_eq_true, true_and, and_true, false_and, and_self, false_implies, implies_true, forall_const, List.nil_append, List.cons_append, List.append_nil, Option.some.injEq, Option.bind_some, List.getElem?_cons_zero, List.getElem?_cons_succ, List.length_cons, List.length_nil, List.take_succ_cons, List.take_nil, List.drop_zero, btf, Bool.true_eq_false, Bool.false_eq_true, tab3, tab4, tab55, tab67, hN, Int.toNat_natCast, er, en8, esn, hwj, w3, w4, t1, k1, k5, k6, z1, z2]
                    repeat refine And.intro (by first | omega | (simp; done) | (simp; omega)) ?_
                    refine ⟨j + 1, fun x => if x = 108 then 137 else x, by simp only []; omega, by simp only []; omega, ?_⟩
                    simp only [hen, hln]
                    simp [SLe, SLe0, convTm, convHp, convB, conv, conv0, lkT, lkH, clean]
                    exact ⟨(List.take_of_length_le (by rw [List.length_append, List.length_take]; exact Nat.le_refl _)).symm, fun id a c d => by omega⟩
                  | true =>
                    rw [z1, z2] at hnx
                    have hnx2 : nxtL l r q (j + 1) = (nxtL l r q j ++ [a]) ++ [q] := by rw [hnx]; simp
                    have hen1 : (encN (nxtL l r q j)).take (nxtL l r q j).length ++ [IV.num .i64 ((a : Nat) : Int)] = encN (nxtL l r q j ++ [a]) := by rw [← encN_app, take_encN]; rfl
                    have hl1 : (encN (nxtL l r q j ++ [a])).length = (nxtL l r q j).length + 1 := by rw [len_encN, List.length_append]; rfl
                    have hen : encN (nxtL l r q (j + 1)) = (encN (nxtL l r q j ++ [a])).take ((nxtL l r q j).length + 1) ++ [IV.num .i64 ((q : Nat) : Int)] := by rw [hnx2, ← encN_app, ← hl1, List.take_length]; rfl
                    have hln : (nxtL l r q (j + 1)).length = (nxtL l r q j).length + 1 + 1 := by rw [hnx2, List.length_append, List.length_append]; rfl
                    have hx109 : ∃ k' ty es, IBlk.arr 1 3 (encN (nxtL l r q j ++ [a])) = IBlk.arr k' ty es := ⟨_, _, _, rfl⟩
                    simp only [V_seq, V_skip, V_block, V_region, V_cond, brW_true, W_nil, W_cons, effOp2, KN_seq, KN_block, KN_back, asB, effOp, effPure, effPick, effNew, effBuildSlice, effFrz, frz, tmpsOf, effAppend, effZeros, skipE, pureV, pickV, srcV, refId, binV, eltV, loadV, iaddrV, ofC, strip, lkT, lkH, ISt.app, opI, gO, gB, allB, gval, wrapG, dstOK, setD, mentTm, mentHp, IV.ment, partsL, eltsI, eltI, noId', Op.operands, reduceIte, reduceCtorEq, cond_true, Bool.or_false, Bool.not_true, Bool.not_false, Nat.reduceMul, Nat.reduceLT, Nat.reduceLeDiff, Nat.reduceEqDiff, Nat.reduceBEq, Nat.zero_add, ne_eq, not_false_eq_true, beq_self_eq_true, true_and, and_true, false_and, and_self, false_implies, implies_true, forall_const, List.nil_append, List.cons_append, List.append_nil, Option.some.injEq, Option.bind_some, List.getElem?_cons_zero, List.getElem?_cons_succ, List.length_cons, List.length_nil, List.take_succ_cons, List.take_nil, List.drop_zero, btf, Bool.true_eq_false, Bool.false_eq_true, tab3, tab4, tab55, tab67, hN, Int.toNat_natCast, er, en8, esn, hwj, w3, w4, t1, k1, k5, k6, z1, z2, hen1, hl1]
                    repeat refine And.intro (by first | omega | (simp; done) | (simp; omega)) ?_
                    refine ⟨j + 1, fun x => if x = 108 then 149 else x, by simp only []; omega, by simp only []; omega, ?_⟩
                    simp only [hen, hln]
                    simp [SLe, SLe0, convTm, convHp, convB, conv, conv0, lkT, lkH, clean]
                    exact ⟨(List.take_of_length_le (by rw [List.length_append, List.length_take]; exact Nat.le_refl _)).symm, fun id a c d => by omega⟩
                | true =>
                  cases z2 : seenB l r q j with
                  | false =>
                    rw [z1, z2] at hnx
                    have hnx2 : nxtL l r q (j + 1) = nxtL l r q j ++ [a] := by rw [hnx]; simp
                    have hen : encN (nxtL l r q (j + 1)) = (encN (nxtL l r q j)).take (nxtL l r q j).length ++ [IV.num .i64 ((a : Nat) : Int)] := by rw [hnx2, ← encN_app, take_encN]; rfl
                    have hln : (nxtL l r q (j + 1)).length = (nxtL l r q j).length + 1 := by rw [hnx2, List.length_append]; rfl
                    simp only [V_seq, V_skip, V_block, V_region, V_cond, brW_true, brW_false, W_nil, W_cons, effOp2, KN_seq, KN_block, KN_back, asB, effOp, effPure, effPick, effNew, effBuildSlice, effFrz, frz, tmpsOf, effAppend, effZeros, skipE, pureV, pickV, srcV, refId, binV, eltV, loadV, iaddrV, ofC, strip, lkT, lkH, ISt.app, opI, gO, gB, allB, gval, wrapG, dstOK, setD, mentTm, mentHp, IV.ment, partsL, eltsI, eltI, noId', Op.operands, reduceIte, reduceCtorEq, cond_true, cond_false, Bool.or_false, Bool.not_true, Bool.not_false, Nat.reduceMul, Nat.reduceLT, Nat.reduceLeDiff, Nat.reduceEqDiff, Nat.reduceBEq, Nat.zero_add, ne_eq, not_false_eq_true, beq_self_eq_true, true_and, and_true, false_and, and_self, false_implies, implies_true, forall_const, List.nil_append, List.cons_append, List.append_nil, Option.some.injEq, Option.bind_some, List.getElem?_cons_zero, List.getElem?_cons_succ, List.length_cons, List.length_nil, List.take_succ_cons, List.take_nil, List.drop_zero, bft, Bool.false_eq_true, tab3, tab4, tab55, tab67, hN, Int.toNat_natCast, er, en8, esn, hwj, w3, w4, t1, k1, k5, k6, z1, z2]
                    repeat refine And.intro (by first | omega | (simp; done) | (simp; omega)) ?_
                    refine ⟨j + 1, fun x => if x = 108 then 137 else x, by simp only []; omega, by simp only []; omega, ?_⟩
                    simp only [hen, hln]
                    simp [SLe, SLe0, convTm, convHp, convB, conv, conv0, lkT, lkH, clean]
                    exact ⟨(List.take_of_length_le (by rw [List.length_append, List.length_take]; exact Nat.le_refl _)).symm, fun id a c d => by omega⟩
                  | true =>
                    rw [z1, z2] at hnx
                    have hnx2 : nxtL l r q (j + 1) = nxtL l r q j := by rw [hnx]; simp
                    simp only [V_seq, V_skip, V_block, V_region, V_cond, brW_false, W_nil, W_cons, effOp2, KN_seq, KN_block, KN_back, asB, effOp, effPure, effPick, pureV, pickV, binV, eltV, loadV, iaddrV, ofC, strip, lkT, lkH, ISt.app, opI, gO, gB, allB, gval, wrapG, dstOK, setD, Op.operands, reduceIte, reduceCtorEq, cond_false, Bool.not_true, Nat.reduceLT, Nat.reduceEqDiff, Nat.zero_add, ne_eq, not_false_eq_true, beq_self_eq_true, true_and, and_true, false_and, and_self, false_implies, implies_true, forall_const, List.nil_append, List.cons_append, Option.bind_some, List.getElem?_cons_zero, List.getElem?_cons_succ, bft, Bool.false_eq_true, tab3, tab4, tab55, tab67, hN, Int.toNat_natCast, er, esn, hwj, w3, w4, t1, k1, k5, k6, z1, z2]
                    repeat refine And.intro (by first | omega | (simp; done) | (simp; omega)) ?_
                    refine ⟨j + 1, id, by simp only []; omega, by simp only []; omega, ?_⟩
                    simp only [hnx2]
                    exact by simp [SLe, SLe0, convTm, convHp, convB, conv, conv0, lkT, lkH, clean]
              · have hje : j = r.length := by simp at h; omega
                subst hje
                simp only [V_seq, V_ret, V_exit, V_region, W_nil, W_cons, effOp2, KN_seq, KN_block, KN_back, KXr_nil, KXe_nil, KXe_seq, KXe_block, KXe_back, QE, effOp, effPure, Option.isSome_some, skipE, pureV, binV, ofC, strip, lkT, lkH, ISt.app, opI, gO, gB, allB, gval, wrapG, dstOK, setD, mentTm, mentHp, IV.ment, idsV, idsL, callArgs, callFn, enumT, conv, conv0, IBlk.shape, Op.operands, reduceIte, reduceCtorEq, cond_true, cond_false, Bool.or_false, Bool.or_true, Bool.and_true, Nat.reduceAdd, Nat.reduceSub, Nat.reduceMul, Nat.reduceLT, Nat.reduceLeDiff, Nat.reduceEqDiff, Nat.reduceBEq, not_false_eq_true, beq_self_eq_true, true_and, and_true, and_false, and_self, false_implies, implies_true, List.map_cons, List.map_nil, List.nil_append, List.cons_append, List.append_nil, List.all_nil, Option.map_some, List.getD_cons_zero, ex_clo, true_or, Bool.true_eq_false, Bool.false_eq_true, hN, isTs_enc, toTs_enc, FinH, resA, resV, SLe, SLe0, convTm, convHp, convB, sm, effH, mkHC0, mkHC1, lendM, lentM, lentI, allHere, addIds, idsB, flatIds, reach, posn, renV, renL, renB, renH, numB, subHp, fwd, bk, bwd, nones, keyOK, noSl, flatBs, List.contains, List.elem, Option.isSome_some, List.nodup_nil, List.nodup_cons, List.not_mem_nil, Option.getD_some, lh_impl_sweep_slices_Clip_impl_Triangle_impl_Triangle, hs_slices_Clip_impl_Triangle_impl_Triangle, hwn]
                refine ⟨k + 1, fun x => if x = 35 then 108 else x, by simp only []; omega, by simp only []; omega, ?_⟩
                simp only [hS]
                simp [SLe, SLe0, convTm, convHp, convB, conv, conv0, lkT, lkH, clean]
                intro id a c d; omega
          · have hie : i + k = l.length := by simp at h; omega
            have hv2 := hfin hie
            have etk := take_encTs o
            simp only [V_seq, V_ret, V_exit, V_region, W_nil, W_cons, effOp2, KN_seq, KXr_nil, KXe_nil, KXe_seq, KXe_block, KXe_back, QE, effOp, effPure, Option.isSome_some, skipE, pureV, strip, lkT, lkH, ISt.app, opI, gO, gB, allB, gval, wrapG, dstOK, setD, mentTm, mentHp, IV.ment, idsV, idsL, callArgs, callFn, enumT, conv, conv0, IBlk.shape, Op.operands, reduceIte, reduceCtorEq, cond_true, cond_false, Bool.or_false, Bool.or_true, Bool.and_true, Nat.reduceAdd, Nat.reduceSub, Nat.reduceMul, Nat.reduceLT, Nat.reduceLeDiff, Nat.reduceEqDiff, Nat.reduceBEq, not_false_eq_true, beq_self_eq_true, true_and, and_true, and_false, and_self, false_implies, implies_true, List.map_cons, List.map_nil, List.nil_append, List.cons_append, List.append_nil, List.all_nil, Option.map_some, List.getD_cons_zero, ex_clo, true_or, Bool.true_eq_false, Bool.false_eq_true, hN, isTs_enc, toTs_enc, FinH, resA, resV, SLe, SLe0, convTm, convHp, convB, sm, effH, mkHC0, mkHC1, lendM, lentM, lentI, allHere, addIds, idsB, flatIds, reach, posn, renV, renL, renB, renH, numB, subHp, fwd, bk, bwd, nones, keyOK, noSl, flatBs, List.contains, List.elem, Option.isSome_some, List.nodup_nil, List.nodup_cons, List.not_mem_nil, Option.getD_some, lh_impl_sweep_slices_Clip_impl_Triangle_impl_Triangle, hs_slices_Clip_impl_Triangle_impl_Triangle, eo, etk, hv2]
            exact ⟨Nat.le_refl _, fun x => if x = 0 then 17 else x, by simp; omega⟩
def hs_impl_sweep : HSpec := ⟨[true], fun xs hp => match xs, hp with | [.sl 2 es], [] => (isPs es) ∧ ((fun (l : List Pt) => siteB l = true) (toPs es)) | _, _ => False, fun xs hp => match xs, hp with | [.sl 2 es], [] => (fun (l : List Pt) => (.ref 0 0 (sweepP l).length false : IV)) (toPs es) | _, _ => .junk, fun xs hp => match xs, hp with | [.sl 2 es], [] => (fun (l : List Pt) => ([(0, .arr 3 31 (encTs (sweepP l)))] : List (Nat × IBlk))) (toPs es) | _, _ => []⟩
theorem hk_impl_sweep : ∀ args hp, hs_impl_sweep.pre args hp → HCall Try.prog 23 args (sm hp) (hs_impl_sweep.val args hp) (sm (hs_impl_sweep.hval args hp)) := by
  intro args hp h
  unfold hs_impl_sweep at h ⊢; simp only at h ⊢; split at h
  · obtain ⟨h1, h2⟩ := h; obtain ⟨l, rfl⟩ := isP_ex h1; rw [toPs_enc] at *; exact c_impl_sweep l h2
  · exact h.elim
theorem en_impl_sweep : Enters Try.prog 23 := enters_of Try.func23 (by kernel_rfl) rfl

end Go.Proofs.Yteaanfpkakaaoaa
