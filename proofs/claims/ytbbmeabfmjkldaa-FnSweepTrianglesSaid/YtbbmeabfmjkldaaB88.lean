/- The law on swept triangles: the walk. -/
import Derived.Test.YtbbmeabfmjkldaaB85a
import Derived.Test.YtbbmeabfmjkldaaB86a
import Derived.Test.YtbbmeabfmjkldaaB15
import Derived.Test.YtbbmeabfmjkldaaB28a
import Derived.Test.YtbbmeabfmjkldaaPl37
set_option linter.unusedVariables false
set_option linter.unusedSimpArgs false
set_option maxHeartbeats 16000000
set_option maxRecDepth 100000
namespace Go.Proofs.Ytbbmeabfmjkldaa
open Go Go.Ideal Go.Pl Go.Sort

theorem swe_good {l : List Pt} (hs : siteB l = true) : goodL l (sweepP l) ∧ (sweepP l).length ≤ 1000000 := by
  unfold sweepP
  split
  · exact ⟨fun t h => by simp at h, by simp⟩
  · rename_i c
    obtain ⟨f1, f2, _, _⟩ := fstN_facts (l := l) (by omega)
    have h20 := okPs_len (site_facts hs).1
    refine ⟨swp_good f1 _ (by omega), ?_⟩
    have := (swp_bd (l := l) f1 (l.length - fstN l)).2.1
    have h2 := pow_20 (n := fstN l + (l.length - fstN l)) (by omega)
    omega
theorem swe_area {l : List Pt} (hs : siteB l = true) (h0 : sweepP l ≠ []) : sumT l (sweepP l) = areaP (hullP l) := by
  obtain ⟨_, ha, _⟩ := site_facts hs
  have har : ∀ (h : List Pt) (i : Nat), areaN h i = sumN h i := fun h i => by
    induction i with
    | zero => rfl
    | succ i ih => rw [areaN, sumN, ih]; rfl
  unfold sweepP at h0 ⊢
  split
  · rename_i c; rw [if_pos c] at h0; exact absurd rfl h0
  · rename_i c
    rw [if_neg c] at h0
    obtain ⟨f1, f2, f3, f4⟩ := fstN_facts (l := l) (by omega)
    rcases Nat.lt_or_ge (fstN l) l.length with q | q
    · rw [swp_area ha f1 q f3 (f4 q)]
      exact (har _ _).symm
    · rw [show l.length - fstN l = 0 by omega] at h0
      exact absurd rfl h0
theorem sumT_take {l : List Pt} : ∀ {L : List Tr} {i : Nat}, i < L.length → sumT l (L.take (i + 1)) = sumT l (L.take i) + areaT l (tAt L i)
  | [], i, h => by simp at h
  | t :: L, 0, _ => by simp [sumT, tAt]
  | t :: L, i + 1, h => by
    have := sumT_take (l := l) (L := L) (i := i) (by simpa using h)
    simp only [List.take_succ_cons, sumT, tAt, List.getD_cons_succ] at this ⊢
    omega
theorem sumT_bd {l : List Pt} {L : List Tr} (h : ∀ i, i < L.length → 0 ≤ areaT l (tAt L i) ∧ areaT l (tAt L i) ≤ 80000000000) : ∀ i, i ≤ L.length → 0 ≤ sumT l (L.take i) ∧ sumT l (L.take i) ≤ 80000000000 * (i : Int)
  | 0, _ => by simp [sumT]
  | i + 1, hi => by
    have h1 := sumT_bd h i (by omega)
    have h2 := h i (by omega)
    rw [sumT_take (by omega)]
    omega
theorem nat_ex {a : Int} (h : 0 ≤ a) : ∃ n : Nat, a = n := ⟨a.toNat, by omega⟩

def drawSw (b : List Int) : List Pt := (aSites (b.take 2000) 0).1
def g_spec_DrawSweepTriangles : List (Nat × PSpec) := []
theorem gok_spec_DrawSweepTriangles : GOK Try.prog g_spec_DrawSweepTriangles := gok0
def h_spec_DrawSweepTriangles : List (Nat × HSpec) := [(29, hs_spec_newReader), (30, hs_spec_anySites)]
theorem hok_spec_DrawSweepTriangles : HOK Try.prog h_spec_DrawSweepTriangles := hok_cons hk_spec_newReader en_spec_newReader (hok_cons hk_spec_anySites en_spec_anySites (hok0))
theorem lh_spec_DrawSweepTriangles_spec_newReader : lkHS h_spec_DrawSweepTriangles 29 = some hs_spec_newReader := rfl
theorem lh_spec_DrawSweepTriangles_spec_anySites : lkHS h_spec_DrawSweepTriangles 30 = some hs_spec_anySites := rfl
theorem c_spec_DrawSweepTriangles (b : List Int) (hb : ∀ x ∈ b, 0 ≤ x ∧ x < 256) (hsz : b.length ≤ 1048576) : ICall Try.prog 26 [.sl 1 (encBy b)] (.sl 2 (encPs (drawSw b))) := by
  refine icall_V (G := g_spec_DrawSweepTriangles) (H := h_spec_DrawSweepTriangles) [] tabOK mixed gok_spec_DrawSweepTriangles hok_spec_DrawSweepTriangles Try.func26 rfl Try.ntmps26 Try.results26 rfl (by kernel_rfl) fun F hN hlen => ?_
  have hbt := bytes_take hb
  have hd : (aSites (b.take 2000) 0).1 = drawSw b := rfl
  obtain ⟨g1, g2⟩ := aSites_bd hbt (Nat.zero_le 700000)
  rw [hd] at g1
  obtain ⟨P, hP⟩ : ∃ P, drawSw b = P := ⟨_, rfl⟩
  rw [hP] at g1 hd
  have eP := len_encPs P
  simp only [V_seq, V_ret, V_region, W_nil, W_cons, effOp2, KN_seq, KXr_nil, QE, effOp, effPure, Option.isSome_some, skipE, pureV, ofC, strip, lkT, lkH, ISt.app, opI, gO, gB, allB, gval, wrapG, dstOK, setD, mentTm, mentHp, IV.ment, IV.mentL, lendV, lendP, lent, lentP, idsV, idsL, clean, callArgs, callFn, enumT, Gives, Ideal.Fin, conv, conv0, convL, IBlk.shape, Op.operands, reduceIte, reduceCtorEq, cond_true, cond_false, Bool.or_false, Bool.and_true, Bool.not_false, Nat.reduceAdd, Nat.reduceSub, Nat.reduceMul, Nat.reduceLT, Nat.reduceLeDiff, Nat.reduceEqDiff, Nat.add_zero, not_false_eq_true, beq_self_eq_true, and_false, and_self, implies_true, List.map_cons, List.map_nil, List.nil_append, List.cons_append, List.append_nil, List.all_nil, Option.map_some, Option.map_none, List.getD_cons_zero, ex_clo, Bool.true_eq_false, Bool.false_eq_true, hN, Int.toNat_natCast, isBy_enc, toBy_enc, SLe0, convTm, convHp, convB, sm, effH, mkHC0, mkHC1, lendM, lentM, lentI, allHere, addIds, idsB, flatIds, reach, posn, renV, renL, renB, renH, numB, subHp, fwd, bk, bwd, nones, keyOK, noSl, noSlL, flatBs, List.contains, List.elem, Option.isSome_some, List.nodup_nil, List.nodup_cons, List.not_mem_nil, or_false, Option.getD_some, lh_spec_DrawSweepTriangles_spec_newReader, lh_spec_DrawSweepTriangles_spec_anySites, hs_spec_newReader, hs_spec_anySites, rdr, hsz, hbt, hd, hP]
def sp_spec_DrawSweepTriangles : PSpec := ⟨fun xs => match xs with | [.sl 1 bes] => isBy bes ∧ ((fun (b : List Int) => ∀ x ∈ b, 0 ≤ x ∧ x < 256) (toIs bes)) ∧ ((fun (b : List Int) => b.length ≤ 1048576) (toIs bes)) | _ => False, fun xs => match xs with | [.sl _ bes] => (fun (b : List Int) => .sl 2 (encPs (drawSw b))) (toIs bes) | _ => .junk, false⟩
theorem gk_spec_DrawSweepTriangles : ∀ args, sp_spec_DrawSweepTriangles.pre args → ICall Try.prog 26 args (sp_spec_DrawSweepTriangles.val args) := by
  intro args h
  unfold sp_spec_DrawSweepTriangles at h ⊢; simp only at h ⊢; split at h
  · obtain ⟨h0, h1, h2⟩ := h
    obtain ⟨l0, rfl⟩ := isBy_ex h0
    simp only [toBy_enc] at *
    exact c_spec_DrawSweepTriangles _ h1 h2
  · exact h.elim
theorem en_spec_DrawSweepTriangles : Enters Try.prog 26 := enters_of Try.func26 (by kernel_rfl) rfl

def g_laws_FnSweepTriangles : List (Nat × PSpec) := [(26, sp_spec_DrawSweepTriangles), (17, sp_impl_SweepTriangles), (27, sp_spec_SweepTriangles), (16, sp_laws_equalTriangles), (12, sp_impl_Cross), (28, sp_impl_HullArea)]
theorem gok_laws_FnSweepTriangles : GOK Try.prog g_laws_FnSweepTriangles := gok_cons gk_spec_DrawSweepTriangles en_spec_DrawSweepTriangles (gok_cons gk_impl_SweepTriangles en_impl_SweepTriangles (gok_cons gk_spec_SweepTriangles en_spec_SweepTriangles (gok_cons gk_laws_equalTriangles en_laws_equalTriangles (gok_cons gk_impl_Cross en_impl_Cross (gok_cons gk_impl_HullArea en_impl_HullArea (gok0))))))
theorem lk_laws_FnSweepTriangles_spec_DrawSweepTriangles : lkG g_laws_FnSweepTriangles 26 = sp_spec_DrawSweepTriangles := rfl
theorem lk_laws_FnSweepTriangles_impl_SweepTriangles : lkG g_laws_FnSweepTriangles 17 = sp_impl_SweepTriangles := rfl
theorem lk_laws_FnSweepTriangles_spec_SweepTriangles : lkG g_laws_FnSweepTriangles 27 = sp_spec_SweepTriangles := rfl
theorem lk_laws_FnSweepTriangles_laws_equalTriangles : lkG g_laws_FnSweepTriangles 16 = sp_laws_equalTriangles := rfl
theorem lk_laws_FnSweepTriangles_impl_Cross : lkG g_laws_FnSweepTriangles 12 = sp_impl_Cross := rfl
theorem lk_laws_FnSweepTriangles_impl_HullArea : lkG g_laws_FnSweepTriangles 28 = sp_impl_HullArea := rfl
def h_laws_FnSweepTriangles : List (Nat × HSpec) := []
theorem hok_laws_FnSweepTriangles : HOK Try.prog h_laws_FnSweepTriangles := hok0
theorem c_laws_FnSweepTriangles (b : List Int) (hb : ∀ x ∈ b, 0 ≤ x ∧ x < 256) : ICall Try.prog 6 [.sl 1 (encBy b)] (.bool true) := by
  refine icall_V (G := g_laws_FnSweepTriangles) (H := []) [(11, [(0, 24), (1, 24), (2, 24), (3, 24), (4, 24), (5, 24), (6, 24), (8, 24), (9, 24), (10, 24), (11, 24), (12, 24), (13, 24), (14, 24), (16, 24), (17, 24), (18, 24), (19, 24), (20, 24), (21, 24), (22, 24)])] tabOK mixed gok_laws_FnSweepTriangles hok_laws_FnSweepTriangles Try.func6 rfl Try.ntmps6 Try.results6 rfl (by kernel_rfl) fun F hN hlen => ?_
  have el := len_encBy b
  have hself : ∀ x : List Tr, (x == x) = true := fun x => by simp
  cases d1 : decide (1048576 < (b.length : Int)) with
  | true => simp only [V_seq, V_ret, V_region, V_cond, brW_true, W_nil, W_cons, effOp2, KN_seq, KXr_nil, KXr_seq, QE, asB, effOp, effPure, pureV, binV, lenV, ofC, strip, lkT, lkH, ISt.app, opI, gO, gB, allB, gval, wrapG, dstOK, setD, clean, enumT, Gives, Ideal.Fin, conv, conv0, Op.operands, Call.operands, List.append_toArray, reduceIte, reduceCtorEq, Nat.reduceLT, Nat.reduceEqDiff, ne_eq, not_false_eq_true, and_self, implies_true, List.nil_append, List.cons_append, List.append_nil, tab22, hN, el, d1]
  | false =>
    have hsz : b.length ≤ 1048576 := by simp at d1; omega
    obtain ⟨P, hP⟩ : ∃ P, drawSw b = P := ⟨_, rfl⟩
    obtain ⟨L, hL⟩ : ∃ L, swV P = L := ⟨_, rfl⟩
    have eP := len_encPs P
    have eL := len_encTs L
    cases d2 : ((L.length : Int) == 0) with
    | true =>
      simp only [V_seq, V_skip, V_ret, V_region, V_cond, brW_true, brW_false, W_nil, W_cons, effOp2, KN_seq, KXr_nil, KXr_seq, QE, asB, effOp, effPure, effPick, effCall, giveUp, hasAll, pureV, pickV, binV, lenV, ofC, strip, lkT, lkH, ISt.app, opI, gO, gB, allB, gval, wrapG, dstOK, setD, lendV, lendP, lent, lentP, idsV, idsL, lkHS, flat, clean, callArgs, callFn, allLent, enumT, Gives, Ideal.Fin, conv, conv0, Op.operands, Call.operands, List.append_toArray, reduceIte, reduceCtorEq, cond_true, cond_false, Bool.or_false, Bool.not_true, Nat.reduceLT, Nat.reduceEqDiff, ne_eq, not_false_eq_true, beq_self_eq_true, true_and, and_true, and_self, implies_true, forall_const, List.map_cons, List.map_nil, List.nil_append, List.cons_append, List.append_nil, Option.bind_some, List.getElem?_cons_zero, List.getElem?_cons_succ, ex_clo, or_true, or_self, Bool.false_eq_true, tab22, tab24, hN, isPs_enc, toPs_enc, isTs_enc, toTs_enc, isBy_enc, toBy_enc, lk_laws_FnSweepTriangles_spec_DrawSweepTriangles, lk_laws_FnSweepTriangles_impl_SweepTriangles, lk_laws_FnSweepTriangles_spec_SweepTriangles, lk_laws_FnSweepTriangles_laws_equalTriangles, sp_spec_DrawSweepTriangles, sp_impl_SweepTriangles, sp_spec_SweepTriangles, sp_laws_equalTriangles, el, d1, hsz, hP, hL, eL, d2]
      exact hb
    | false =>
      have hs : siteB P = true := by
        cases h : siteB P with
        | true => rfl
        | false => rw [swV, h] at hL; subst hL; simp at d2
      have hL' : sweepP P = L := by rw [swV, hs] at hL; exact hL
      have hk := (site_facts hs).1
      obtain ⟨hg, hgl⟩ := swe_good hs
      have hne : sweepP P ≠ [] := by rintro h; rw [hL'] at h; subst h; simp at d2
      have har := swe_area hs hne
      rw [hL'] at hg hgl har
      have hH : hareaP P = sumT P L := by rw [hareaP, hk, har]; rfl
      have h20 := okPs_len hk
      have hpt : ∀ j, j < P.length → okP (pAt P j) = true := fun j hj => by
        simp only [okPs, Bool.and_eq_true, List.all_eq_true] at hk
        exact hk.1 _ (by rw [pAt, List.getD, List.getElem?_eq_getElem hj]; exact List.getElem_mem hj)
      have hta : ∀ i, i < L.length → goodT P.length P (tAt L i) := fun i hi => hg _ (t3_mem hi)
      have hbd : ∀ i, i < L.length → 0 ≤ areaT P (tAt L i) ∧ areaT P (tAt L i) ≤ 80000000000 := fun i hi => by
        obtain ⟨⟨x0, x1⟩, ⟨y0, y1⟩, ⟨z0, z1⟩, h⟩ := hta i hi
        exact ⟨by omega, (turn_bd (okP_sm (hpt (tAt L i).1.toNat (by omega))) (okP_sm (hpt (tAt L i).2.1.toNat (by omega))) (okP_sm (hpt (tAt L i).2.2.toNat (by omega)))).2⟩
      simp only [V_seq, V_skip, V_block, V_region, V_cond, brW_false, W_nil, W_cons, effOp2, KN_seq, asB, effOp, effPure, effPick, effCall, giveUp, hasAll, pureV, pickV, binV, lenV, ofC, strip, lkT, lkH, ISt.app, opI, gO, gB, allB, gval, wrapG, dstOK, setD, lendV, lendP, lent, lentP, idsV, idsL, lkHS, flat, clean, callArgs, callFn, allLent, enumT, Op.operands, Call.operands, List.append_toArray, reduceIte, reduceCtorEq, cond_true, cond_false, Bool.or_false, Bool.not_true, Nat.reduceLT, Nat.reduceEqDiff, ne_eq, not_false_eq_true, beq_self_eq_true, true_and, and_true, and_self, implies_true, forall_const, List.map_cons, List.map_nil, List.nil_append, List.cons_append, List.append_nil, Option.bind_some, List.getElem?_cons_zero, List.getElem?_cons_succ, ex_clo, or_true, or_self, Bool.false_eq_true, tab22, tab24, hN, isPs_enc, toPs_enc, isTs_enc, toTs_enc, isBy_enc, toBy_enc, lk_laws_FnSweepTriangles_spec_DrawSweepTriangles, lk_laws_FnSweepTriangles_impl_SweepTriangles, lk_laws_FnSweepTriangles_spec_SweepTriangles, lk_laws_FnSweepTriangles_laws_equalTriangles, sp_spec_DrawSweepTriangles, sp_impl_SweepTriangles, sp_spec_SweepTriangles, sp_laws_equalTriangles, el, d1, hsz, hP, hL, eL, d2]
      refine ⟨hb, ?_⟩
      refine V_loop (α := Nat) ⟨tabOK, mixed, gok_laws_FnSweepTriangles, hok_laws_FnSweepTriangles⟩ (by kernel_rfl) (fun i => i ≤ L.length) (fun i => ⟨[(6, .num .i64 i), (5, .num .i64 (sumT P (L.take i))), (4, .sl 3 (encTs L)), (3, .sl 2 (encPs P))], []⟩) (fun i => L.length - i) 0 id (Nat.zero_le _) (by simp [SLe, SLe0, convTm, convHp, conv, conv0, lkT, lkH, clean, Pl.sumT]) ?_
      intro i hi
      simp only [V_seq, V_region, V_cond, W_nil, W_cons, effOp2, KN_seq, asB, effOp, effPure, pureV, binV, lenV, strip, lkT, ISt.app, opI, gO, gB, allB, gval, wrapG, dstOK, setD, Op.operands, Call.operands, List.append_toArray, reduceIte, reduceCtorEq, Nat.reduceLT, Nat.reduceEqDiff, ne_eq, not_false_eq_true, true_and, and_self, implies_true, List.nil_append, List.cons_append, List.append_nil, tab24, hN, eL]
      refine brW_some (fun h => ?_) (fun h => ?_)
      · have hi' : i < L.length := by simpa using h
        have hw := wr_succ hi' (by rw [maxLen_eq]; omega)
        have g0 := getD_encTs hi'
        have s1 := sumT_bd hbd i (by omega)
        have s2 := hbd i hi'
        have hst := sumT_take (l := P) hi'
        obtain ⟨⟨a0, a1⟩, ⟨b0, b1⟩, ⟨c0, c1⟩, htp⟩ := hta i hi'
        obtain ⟨t, ht⟩ : ∃ t, tAt L i = t := ⟨_, rfl⟩
        rw [ht] at g0 a0 a1 b0 b1 c0 c1 htp s2 hst
        obtain ⟨t1', t2', t3'⟩ := t
        simp only [] at a0 a1 b0 b1 c0 c1
        obtain ⟨x, rfl⟩ := nat_ex a0
        obtain ⟨y, rfl⟩ := nat_ex b0
        obtain ⟨z, rfl⟩ := nat_ex c0
        have g1 := getD_encPs (l := P) (i := x) (by omega)
        have g2 := getD_encPs (l := P) (i := y) (by omega)
        have g3 := getD_encPs (l := P) (i := z) (by omega)
        have o1 := hpt x (by omega)
        have o2 := hpt y (by omega)
        have o3 := hpt z (by omega)
        have hc : crI (pAt P x) (pAt P y) (pAt P z) = areaT P ((x : Int), (y : Int), (z : Int)) := by
          rw [crI, o1, o2, o3]; rfl
        obtain ⟨A, hA⟩ : ∃ A, areaT P ((x : Int), (y : Int), (z : Int)) = A := ⟨_, rfl⟩
        rw [hA] at hc htp s2 hst
        have d3 : decide (A ≤ 0) = false := decide_eq_false (by omega)
        have w2 : IntKind.i64.wrap (sumT P (L.take i) + A) = sumT P (L.take (i + 1)) := by rw [hst, wr (by omega) (by omega)]
        simp only [V_seq, V_skip, V_block, V_region, V_draw, V_cond, brW_false, drawW, WS_nil, pairsOf, W_nil, W_cons, effOp2, effOp3, WI_nil, WI_cons, KN_seq, KN_block, KN_back, dynOK, indB, farB, freshB, freshK, freshK1, heapy, asB, effOp, effPure, effCall, giveUp, hasAll, pureV, binV, partV, eltV, loadV, faddrV, iaddrV, ofC, strip, lkT, lkH, ISt.app, opI, gO, gB, allB, gval, wrapG, dstOK, setD, mentTm, mentHp, IV.ment, lendV, lendP, lent, lentP, idsV, idsL, lkHS, flat, clean, callArgs, callFn, allLent, Op.operands, Call.operands, List.append_toArray, reduceIte, reduceCtorEq, cond_true, cond_false, Bool.or_false, Bool.and_true, Bool.and_eq_true, Bool.not_true, Bool.not_false, Nat.reduceAdd, Nat.reduceLT, Nat.reduceLeDiff, Nat.reduceEqDiff, Nat.reduceBEq, Nat.add_zero, Nat.zero_add, ne_eq, not_false_eq_true, true_and, and_true, and_false, and_self, implies_true, forall_const, List.map_cons, List.map_nil, List.nil_append, List.cons_append, List.append_nil, List.getD_cons_zero, List.getD_cons_succ, List.length_cons, List.length_nil, List.take_succ_cons, List.take_zero, List.take_nil, List.drop_succ_cons, List.drop_zero, ex_clo, or_self, tab3, tab23, tab24, tab30, tab32, hN, pe, Int.toNat_natCast, lk_laws_FnSweepTriangles_impl_Cross, sp_impl_Cross, eL, eP, g0, g1, g2, g3, hc, d3, w2, hw, Int.toNat_natCast]
        repeat refine And.intro (by omega) ?_
        exact ⟨i + 1, id, by simp only []; omega, by simp only []; omega, by simp [SLe, SLe0, convTm, convHp, conv, conv0, lkT, lkH, clean]⟩
      · have hie : i = L.length := by simp at h; omega
        subst hie
        rw [List.take_length]
        have d5 : (sumT P L == sumT P L) = true := by simp
        simp only [V_seq, V_ret, V_exit, V_region, W_nil, W_cons, effOp2, KN_seq, KXr_nil, KXe_nil, KXe_seq, KXe_block, KXe_back, QE, effOp, effPure, effCall, giveUp, hasAll, pureV, binV, strip, lkT, lkH, ISt.app, opI, gO, gB, allB, gval, wrapG, dstOK, setD, lendV, lendP, lent, lentP, idsV, idsL, lkHS, flat, clean, callArgs, callFn, allLent, Gives, Ideal.Fin, conv, conv0, Op.operands, reduceIte, cond_true, Bool.or_false, Bool.not_true, Nat.reduceLT, Nat.reduceEqDiff, beq_self_eq_true, and_self, implies_true, List.map_cons, List.map_nil, List.nil_append, List.cons_append, List.append_nil, ex_clo, or_self, hN, isPs_enc, toPs_enc, lk_laws_FnSweepTriangles_impl_HullArea, sp_impl_HullArea, hH]
def sp_laws_FnSweepTriangles : PSpec := ⟨fun xs => match xs with | [.sl 1 bes] => isBy bes ∧ ((fun (b : List Int) => ∀ x ∈ b, 0 ≤ x ∧ x < 256) (toIs bes)) | _ => False, fun xs => match xs with | [.sl _ bes] => (fun (b : List Int) => .bool true) (toIs bes) | _ => .junk, false⟩
theorem gk_laws_FnSweepTriangles : ∀ args, sp_laws_FnSweepTriangles.pre args → ICall Try.prog 6 args (sp_laws_FnSweepTriangles.val args) := by
  intro args h
  unfold sp_laws_FnSweepTriangles at h ⊢; simp only at h ⊢; split at h
  · obtain ⟨h0, h1⟩ := h
    obtain ⟨l0, rfl⟩ := isBy_ex h0
    simp only [toBy_enc] at *
    exact c_laws_FnSweepTriangles _ h1
  · exact h.elim
theorem en_laws_FnSweepTriangles : Enters Try.prog 6 := enters_of Try.func6 (by kernel_rfl) rfl

end Go.Proofs.Ytbbmeabfmjkldaa
