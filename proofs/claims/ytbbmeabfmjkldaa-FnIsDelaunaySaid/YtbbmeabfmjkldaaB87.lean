/- Drawn triangles; the law on Delaunay triangles: the walk. -/
import Derived.Test.YtbbmeabfmjkldaaB86
import Derived.Test.YtbbmeabfmjkldaaB26
import Derived.Test.YtbbmeabfmjkldaaBSw
import Derived.Test.YtbbmeabfmjkldaaB82
set_option linter.unusedVariables false
set_option linter.unusedSimpArgs false
set_option maxHeartbeats 16000000
set_option maxRecDepth 100000
namespace Go.Proofs.Ytbbmeabfmjkldaa
open Go Go.Ideal Go.Pl Go.Sort

/-- Drawn points in order, maybe not good ones; where the reader stands then. -/
def aSites (b : List Int) (p : Nat) : List Pt × Nat :=
  if 1 < (insP (rPoints b p 9)).length then
    if pickI b (p + 2 + 2 * rNum b p 9) 14 = 0 then ((insP (rPoints b p 9)).set 0 (pAt (insP (rPoints b p 9)) 1), p + 2 + 2 * rNum b p 9 + 1)
    else (insP (rPoints b p 9), p + 2 + 2 * rNum b p 9 + 1)
  else (insP (rPoints b p 9), p + 2 + 2 * rNum b p 9)
def g_spec_anySites : List (Nat × PSpec) := []
theorem gok_spec_anySites : GOK Try.prog g_spec_anySites := gok0
def h_spec_anySites : List (Nat × HSpec) := [(58, hs_spec_randomPoints), (57, hs_spec_sorted_h), (31, hs_spec_reader_pick)]
theorem hok_spec_anySites : HOK Try.prog h_spec_anySites := hok_cons hk_spec_randomPoints en_spec_randomPoints (hok_cons hk_spec_sorted_h en_spec_sorted_h (hok_cons hk_spec_reader_pick en_spec_reader_pick (hok0)))
theorem lh_spec_anySites_spec_randomPoints : lkHS h_spec_anySites 58 = some hs_spec_randomPoints := rfl
theorem lh_spec_anySites_spec_sorted_h : lkHS h_spec_anySites 57 = some hs_spec_sorted_h := rfl
theorem lh_spec_anySites_spec_reader_pick : lkHS h_spec_anySites 31 = some hs_spec_reader_pick := rfl
theorem c_spec_anySites (b : List Int) (p : Nat) (hb : BytesOK b) (hp : p ≤ 700000) : HCall Try.prog 30 [.ptr 1000 0] (sm ([(1000, rdr b p)])) (.sl 2 (encPs (aSites b p).1)) (sm ([(1000, rdr b (aSites b p).2)])) := by
  refine hcall_V (G := g_spec_anySites) (H := h_spec_anySites) [] tabOK mixed gok_spec_anySites hok_spec_anySites Try.func30 rfl Try.ntmps30 Try.results30 rfl (by kernel_rfl) fun F hN hlen => ?_
  simp only [sm]
  have hr := rNum_le hb (show p ≤ 900000 by omega) (show (0 : Int) ≤ 9 by omega)
  have hrl : (rPoints b p 9).length = rNum b p 9 := rLoop_len _ _ _ _
  have hA : ∀ S n, insP (rPoints b p 9) = S → rNum b p 9 = n → aSites b p = if 1 < S.length then if pickI b (p + 2 + 2 * n) 14 = 0 then (S.set 0 (pAt S 1), p + 2 + 2 * n + 1) else (S, p + 2 + 2 * n + 1) else (S, p + 2 + 2 * n) := by
    intro S n e1 e2; subst e1 e2; rfl
  have hi := insP_len (rPoints b p 9)
  obtain ⟨R, hR⟩ : ∃ R, rPoints b p 9 = R := ⟨_, rfl⟩
  obtain ⟨n, hn⟩ : ∃ n, rNum b p 9 = n := ⟨_, rfl⟩
  rw [hR] at hA hi hrl
  rw [hn] at hr hrl
  obtain ⟨S, hS⟩ : ∃ S, insP R = S := ⟨_, rfl⟩
  rw [hS] at hi
  have hB := hA S n hS hn
  clear hA
  have q1 : p ≤ 800000 := by omega
  have q2 : R.length ≤ 1000 := by omega
  have q3 : p + 2 + 2 * n ≤ 1000000 := by omega
  have eS := len_encPs S
  have tS := take_encPs S
  have tR := take_encPs R
  have tn0 : Int.toNat 0 = 0 := rfl
  have tn1 : Int.toNat 1 = 1 := rfl
  by_cases c1 : 1 < S.length
  · have d1 : decide ((1 : Int) < (S.length : Int)) = true := decide_eq_true (by omega)
    rw [if_pos c1] at hB
    by_cases c2 : pickI b (p + 2 + 2 * n) 14 = 0
    · have d2 : (pickI b (p + 2 + 2 * n) 14 == 0) = true := by simpa using c2
      rw [if_pos c2] at hB
      have g1 := getD_encPs (l := S) (i := 1) (by omega)
      have hset := encPs_set S 0 (pAt S 1)
      simp only [V_seq, V_ret, V_region, V_cond, brW_true, W_nil, W_cons, effOp2, KN_seq, KXr_nil, QE, asB, effOp, effPure, effPick, effStore, Option.isSome_some, skipE, pureV, pickV, storeV, binV, partV, eltV, loadV, iaddrV, lenV, over, solid, IV.cells, ofC, strip, lkT, lkH, ISt.app, opI, gO, gB, allB, gval, wrapG, dstOK, setD, mentTm, mentHp, IV.ment, IV.mentL, eltI, oneI, noId', lendV, lendP, lent, lentP, idsV, idsL, clean, callArgs, callFn, enumT, conv, conv0, convL, IBlk.shape, Op.operands, Call.operands, List.append_toArray, reduceIte, reduceCtorEq, cond_true, cond_false, Bool.or_false, Bool.or_true, Bool.and_true, Bool.and_false, Bool.true_and, Bool.not_false, Nat.reduceAdd, Nat.reduceSub, Nat.reduceMul, Nat.reduceLT, Nat.reduceLeDiff, Nat.reduceEqDiff, Nat.reduceBEq, Nat.add_zero, Nat.zero_add, ne_eq, not_false_eq_true, beq_self_eq_true, true_and, and_true, and_false, and_self, false_implies, implies_true, forall_const, List.map_cons, List.map_nil, List.nil_append, List.cons_append, List.append_nil, List.all_cons, List.all_nil, Option.some.injEq, Option.map_some, Option.map_none, Option.bind_some, List.getElem?_cons_zero, List.getElem?_cons_succ, List.getD_cons_zero, List.length_cons, List.length_nil, List.take_succ_cons, List.take_zero, List.take_nil, List.drop_zero, ex_clo, or_self, Bool.true_eq_false, Bool.false_eq_true, tab23, tab30, hN, Int.toNat_natCast, isPs_enc, toPs_enc, isBy_enc, toBy_enc, FinH, resA, resV, SLe, SLe0, convTm, convHp, convB, sm, effH, mkHC0, mkHC1, lendM, lentM, lentI, allHere, addIds, idsB, flatIds, reach, posn, renV, renL, renB, renH, numB, subHp, fwd, bk, bwd, nones, keyOK, noSl, noSlL, flatBs, List.contains, List.elem, Option.isSome_some, List.nodup_nil, List.nodup_cons, List.not_mem_nil, List.mem_cons, or_false, Option.getD_some, lh_spec_anySites_spec_randomPoints, lh_spec_anySites_spec_sorted_h, lh_spec_anySites_spec_reader_pick, hs_spec_randomPoints, hs_spec_sorted_h, hs_spec_reader_pick, rdr, hb, hR, hn, hS, q1, q2, q3, eS, tR, d1, d2, g1, hset, tn0, tn1, Nat.zero_add, hB]
      refine ⟨⟨⟨by omega, by omega⟩, List.take_length.symm⟩, ⟨by rw [len_encPs]; exact Nat.le_refl _, (take_encPs S).symm, .inr (noSl_encPs _)⟩, by omega, ⟨by omega, by omega⟩, by omega, ⟨by omega, by omega⟩, by omega, id, ?_⟩
      simp [convL, conv, conv0, clean]
      exact ⟨_, _, ⟨rfl, rfl⟩, by rw [len_encPs, List.length_set]; exact Nat.le_refl _, (List.take_of_length_le (by rw [len_encPs, List.length_set]; exact Nat.le_refl _)).symm⟩
    · have d2 : (pickI b (p + 2 + 2 * n) 14 == 0) = false := by simpa using c2
      rw [if_neg c2] at hB
      simp only [V_seq, V_skip, V_ret, V_region, V_cond, brW_false, W_nil, W_cons, effOp2, KN_seq, KXr_nil, QE, asB, effOp, effPure, effPick, Option.isSome_some, skipE, pureV, pickV, binV, lenV, ofC, strip, lkT, lkH, ISt.app, opI, gO, gB, allB, gval, wrapG, dstOK, setD, mentTm, mentHp, IV.ment, IV.mentL, lendV, lendP, lent, lentP, idsV, idsL, clean, callArgs, callFn, enumT, conv, conv0, convL, IBlk.shape, Op.operands, Call.operands, List.append_toArray, reduceIte, reduceCtorEq, cond_true, cond_false, Bool.or_false, Bool.or_true, Bool.and_true, Bool.and_false, Bool.not_false, Nat.reduceAdd, Nat.reduceSub, Nat.reduceMul, Nat.reduceLT, Nat.reduceLeDiff, Nat.reduceEqDiff, Nat.reduceBEq, Nat.add_zero, Nat.zero_add, ne_eq, not_false_eq_true, beq_self_eq_true, true_and, and_true, and_false, and_self, false_implies, implies_true, List.map_cons, List.map_nil, List.nil_append, List.cons_append, List.append_nil, List.all_cons, List.all_nil, Option.some.injEq, Option.map_some, Option.map_none, Option.bind_some, List.getElem?_cons_zero, List.getElem?_cons_succ, List.getD_cons_zero, List.drop_zero, ex_clo, or_self, Bool.true_eq_false, Bool.false_eq_true, tab23, hN, Int.toNat_natCast, isPs_enc, toPs_enc, isBy_enc, toBy_enc, FinH, resA, resV, SLe, SLe0, convTm, convHp, convB, sm, effH, mkHC0, mkHC1, lendM, lentM, lentI, allHere, addIds, idsB, flatIds, reach, posn, renV, renL, renB, renH, numB, subHp, fwd, bk, bwd, nones, keyOK, noSl, noSlL, flatBs, List.contains, List.elem, Option.isSome_some, List.nodup_nil, List.nodup_cons, List.not_mem_nil, List.mem_cons, or_false, Option.getD_some, lh_spec_anySites_spec_randomPoints, lh_spec_anySites_spec_sorted_h, lh_spec_anySites_spec_reader_pick, hs_spec_randomPoints, hs_spec_sorted_h, hs_spec_reader_pick, rdr, hb, hR, hn, hS, q1, q2, q3, eS, tR, tS, d1, d2, hB]
      refine ⟨⟨⟨by omega, by omega⟩, List.take_length.symm⟩, ⟨by rw [len_encPs]; exact Nat.le_refl _, .inr (noSl_encPs _)⟩, by omega, id, ?_⟩
      simp [convL, conv, conv0, clean]
      exact ⟨_, _, ⟨rfl, rfl⟩, by omega, tS.symm⟩
  · have d1 : decide ((1 : Int) < (S.length : Int)) = false := decide_eq_false (by omega)
    rw [if_neg c1] at hB
    simp only [V_seq, V_skip, V_ret, V_region, V_cond, brW_false, W_nil, W_cons, effOp2, KN_seq, KXr_nil, QE, asB, effOp, effPure, effPick, Option.isSome_some, skipE, pureV, pickV, binV, lenV, ofC, strip, lkT, lkH, ISt.app, opI, gO, gB, allB, gval, wrapG, dstOK, setD, mentTm, mentHp, IV.ment, IV.mentL, lendV, lendP, lent, lentP, idsV, idsL, clean, callArgs, callFn, enumT, conv, conv0, convL, IBlk.shape, Op.operands, Call.operands, List.append_toArray, reduceIte, reduceCtorEq, cond_true, cond_false, Bool.or_false, Bool.or_true, Bool.and_true, Bool.and_false, Bool.not_false, Nat.reduceAdd, Nat.reduceSub, Nat.reduceMul, Nat.reduceLT, Nat.reduceLeDiff, Nat.reduceEqDiff, Nat.reduceBEq, Nat.add_zero, Nat.zero_add, ne_eq, not_false_eq_true, beq_self_eq_true, true_and, and_true, false_and, and_false, and_self, false_implies, implies_true, List.map_cons, List.map_nil, List.nil_append, List.cons_append, List.append_nil, List.all_cons, List.all_nil, Option.some.injEq, Option.map_some, Option.map_none, Option.bind_some, List.getElem?_cons_zero, List.getElem?_cons_succ, List.getD_cons_zero, List.drop_zero, ex_clo, bft, or_self, Bool.true_eq_false, Bool.false_eq_true, tab23, hN, Int.toNat_natCast, isPs_enc, toPs_enc, isBy_enc, toBy_enc, FinH, resA, resV, SLe, SLe0, convTm, convHp, convB, sm, effH, mkHC0, mkHC1, lendM, lentM, lentI, allHere, addIds, idsB, flatIds, reach, posn, renV, renL, renB, renH, numB, subHp, fwd, bk, bwd, nones, keyOK, noSl, noSlL, flatBs, List.contains, List.elem, Option.isSome_some, List.nodup_nil, List.nodup_cons, List.not_mem_nil, List.mem_cons, or_false, Option.getD_some, lh_spec_anySites_spec_randomPoints, lh_spec_anySites_spec_sorted_h, lh_spec_anySites_spec_reader_pick, hs_spec_randomPoints, hs_spec_sorted_h, hs_spec_reader_pick, rdr, hb, hR, hn, hS, q1, q2, q3, eS, tR, tS, d1, hB]
    refine ⟨⟨⟨by omega, by omega⟩, List.take_length.symm⟩, ⟨by rw [len_encPs]; exact Nat.le_refl _, .inr (noSl_encPs _)⟩, id, ?_⟩
    simp [convL, conv, conv0, clean]
    exact ⟨_, _, ⟨rfl, rfl⟩, by omega, tS.symm⟩
def hs_spec_anySites : HSpec := ⟨[false], fun xs hp => match xs, hp with | [.ptr 1000 0], [(1000, .box ty [.sl 1 es, .num .i64 pz])] => (isBy es) ∧ (ty = 64) ∧ (pz = (pz.toNat : Int)) ∧ ((fun (b : List Int) (p : Nat) => BytesOK b) (toIs es) pz.toNat) ∧ ((fun (b : List Int) (p : Nat) => p ≤ 700000) (toIs es) pz.toNat) | _, _ => False, fun xs hp => match xs, hp with | [.ptr 1000 0], [(1000, .box ty [.sl 1 es, .num .i64 pz])] => (fun (b : List Int) (p : Nat) => (.sl 2 (encPs (aSites b p).1) : IV)) (toIs es) pz.toNat | _, _ => .junk, fun xs hp => match xs, hp with | [.ptr 1000 0], [(1000, .box ty [.sl 1 es, .num .i64 pz])] => (fun (b : List Int) (p : Nat) => ([(1000, rdr b (aSites b p).2)] : List (Nat × IBlk))) (toIs es) pz.toNat | _, _ => []⟩
theorem hk_spec_anySites : ∀ args hp, hs_spec_anySites.pre args hp → HCall Try.prog 30 args (sm hp) (hs_spec_anySites.val args hp) (sm (hs_spec_anySites.hval args hp)) := by
  intro args hp h
  unfold hs_spec_anySites at h ⊢; simp only at h ⊢; split at h
  · obtain ⟨h1, rfl, h3, h4, h5⟩ := h; obtain ⟨l, rfl⟩ := isBy_ex h1; rw [toBy_enc] at *; rw [h3]; exact c_spec_anySites l _ h4 (by simpa using h5)
  · exact h.elim
theorem en_spec_anySites : Enters Try.prog 30 := enters_of Try.func30 (by kernel_rfl) rfl

theorem aSites_bd {b : List Int} (hb : BytesOK b) {p : Nat} (hp : p ≤ 700000) : (aSites b p).1.length ≤ 9 ∧ (aSites b p).2 ≤ p + 30 := by
  have hr := rNum_le hb (show p ≤ 900000 by omega) (show (0 : Int) ≤ 9 by omega)
  have hrl : (rPoints b p 9).length = rNum b p 9 := rLoop_len _ _ _ _
  have hi := insP_len (rPoints b p 9)
  unfold aSites
  split
  · split
    · simp only [List.length_set]; omega
    · simp only []; omega
  · simp only []; omega
/-- The triangles that a code draws for points. -/
def dTri (b : List Int) (P : List Pt) (p : Nat) : List Tr :=
  if 0 < (if pickI b p 2 = 0 then delV P else swV P).length ∧ pickI b (p + 1) 8 = 0 then (if pickI b p 2 = 0 then delV P else swV P).set 0 ((tAt (if pickI b p 2 = 0 then delV P else swV P) 0).1, (tAt (if pickI b p 2 = 0 then delV P else swV P) 0).2.1, pickI b (p + 1 + 1) ((P.length : Int) + 1))
  else (if pickI b p 2 = 0 then delV P else swV P)
theorem sw_len (P : List Pt) : (swV P).length ≤ 1000000 ∧ (delV P).length ≤ 1000000 := by
  cases hs : siteB P with
  | false => rw [swV, delV, hs]; exact ⟨Nat.zero_le _, Nat.zero_le _⟩
  | true =>
    have h := sweep_len hs
    rw [(delV_good hs).2.2, swV, hs]
    exact ⟨h, h⟩
theorem dTri_len (b : List Int) (P : List Pt) (p : Nat) : (dTri b P p).length ≤ 1000000 := by
  have h := sw_len P
  have hL : (if pickI b p 2 = 0 then delV P else swV P).length ≤ 1000000 := by split <;> omega
  unfold dTri
  generalize (if pickI b p 2 = 0 then delV P else swV P) = L at *
  split
  · rw [List.length_set]; exact hL
  · exact hL
def drawIP (b : List Int) : List Pt := (aSites (b.take 2000) 0).1
def drawIT (b : List Int) : List Tr := dTri (b.take 2000) (drawIP b) (aSites (b.take 2000) 0).2
def g_spec_DrawIsDelaunay : List (Nat × PSpec) := [(27, sp_spec_SweepTriangles), (18, sp_spec_Delaunay)]
theorem gok_spec_DrawIsDelaunay : GOK Try.prog g_spec_DrawIsDelaunay := gok_cons gk_spec_SweepTriangles en_spec_SweepTriangles (gok_cons gk_spec_Delaunay en_spec_Delaunay (gok0))
theorem lk_spec_DrawIsDelaunay_spec_SweepTriangles : lkG g_spec_DrawIsDelaunay 27 = sp_spec_SweepTriangles := rfl
theorem lk_spec_DrawIsDelaunay_spec_Delaunay : lkG g_spec_DrawIsDelaunay 18 = sp_spec_Delaunay := rfl
def h_spec_DrawIsDelaunay : List (Nat × HSpec) := [(29, hs_spec_newReader), (30, hs_spec_anySites), (31, hs_spec_reader_pick)]
theorem hok_spec_DrawIsDelaunay : HOK Try.prog h_spec_DrawIsDelaunay := hok_cons hk_spec_newReader en_spec_newReader (hok_cons hk_spec_anySites en_spec_anySites (hok_cons hk_spec_reader_pick en_spec_reader_pick (hok0)))
theorem lh_spec_DrawIsDelaunay_spec_SweepTriangles : lkHS h_spec_DrawIsDelaunay 27 = none := rfl
theorem lh_spec_DrawIsDelaunay_spec_Delaunay : lkHS h_spec_DrawIsDelaunay 18 = none := rfl
theorem lh_spec_DrawIsDelaunay_spec_newReader : lkHS h_spec_DrawIsDelaunay 29 = some hs_spec_newReader := rfl
theorem lh_spec_DrawIsDelaunay_spec_anySites : lkHS h_spec_DrawIsDelaunay 30 = some hs_spec_anySites := rfl
theorem lh_spec_DrawIsDelaunay_spec_reader_pick : lkHS h_spec_DrawIsDelaunay 31 = some hs_spec_reader_pick := rfl
theorem c_spec_DrawIsDelaunay (b : List Int) (hb : ∀ x ∈ b, 0 ≤ x ∧ x < 256) (hsz : b.length ≤ 1048576) : ICall Try.prog 7 [.sl 1 (encBy b)] (.tup [.sl 2 (encPs (drawIP b)), .sl 3 (encTs (drawIT b))]) := by
  refine icall_V (G := g_spec_DrawIsDelaunay) (H := h_spec_DrawIsDelaunay) [] tabOK mixed gok_spec_DrawIsDelaunay hok_spec_DrawIsDelaunay Try.func7 rfl Try.ntmps7 Try.results7 rfl (by kernel_rfl) fun F hN hlen => ?_
  have hbt := bytes_take hb
  have hd : (aSites (b.take 2000) 0).1 = drawIP b := rfl
  have hD : drawIT b = dTri (b.take 2000) (drawIP b) (aSites (b.take 2000) 0).2 := rfl
  obtain ⟨g1, g2⟩ := aSites_bd hbt (Nat.zero_le 700000)
  rw [hd] at g1
  obtain ⟨P, hP⟩ : ∃ P, drawIP b = P := ⟨_, rfl⟩
  obtain ⟨p, hp⟩ : ∃ p, (aSites (b.take 2000) 0).2 = p := ⟨_, rfl⟩
  rw [hP] at g1 hd hD
  rw [hp] at g2 hD
  have q1 : p ≤ 1000000 := by omega
  have q2 : p + 1 ≤ 1000000 := by omega
  have q3 : p + 1 + 1 ≤ 1000000 := by omega
  have eP := len_encPs P
  obtain ⟨hl1, hl2⟩ := sw_len P
  have eW := len_encTs (swV P)
  have tW := take_encTs (swV P)
  have tn0 : Int.toNat 0 = 0 := rfl
  have wP : IntKind.i64.wrap ((P.length : Int) + 1) = (P.length : Int) + 1 := wr (by omega) (by omega)
  have q4 : (P.length : Int) + 1 ≤ 1000000 := by omega
  have key : ∀ L : List Tr, (if pickI (b.take 2000) p 2 = 0 then delV P else swV P) = L → drawIT b = if 0 < L.length ∧ pickI (b.take 2000) (p + 1) 8 = 0 then L.set 0 ((tAt L 0).1, (tAt L 0).2.1, pickI (b.take 2000) (p + 1 + 1) ((P.length : Int) + 1)) else L := by
    intro L hL
    rw [hD, dTri, hL]
  by_cases c0 : pickI (b.take 2000) p 2 = 0
  · have d0 : (pickI (b.take 2000) p 2 == 0) = true := by simpa using c0
    have hk := key (delV P) (if_pos c0)
    obtain ⟨L, hL⟩ : ∃ L, delV P = L := ⟨_, rfl⟩
    rw [hL] at hk hl2
    have eL := len_encTs L
    have tL := take_encTs L
    by_cases c1 : 0 < L.length
    · have d1 : decide ((0 : Int) < (L.length : Int)) = true := decide_eq_true (by omega)
      by_cases c2 : pickI (b.take 2000) (p + 1) 8 = 0
      · have d2 : (pickI (b.take 2000) (p + 1) 8 == 0) = true := by simpa using c2
        rw [if_pos ⟨c1, c2⟩] at hk
        have g0 := getD_encTs (l := L) (i := 0) c1
        have hset := encTs_set L 0 ((tAt L 0).1, (tAt L 0).2.1, pickI (b.take 2000) (p + 1 + 1) ((P.length : Int) + 1))
        simp only [V_seq, V_ret, V_region, V_cond, brW_true, W_nil, W_cons, effOp2, KN_seq, KXr_nil, QE, asB, effOp, effPure, effPick, effNew, effBuildSlice, effFrz, frz, tmpsOf, effStore, effAppend, effZeros, effCall, giveUp, hasAll, Option.isSome_some, skipE, pureV, pickV, storeV, srcV, refId, binV, faddrV, iaddrV, lenV, over, solid, IV.cells, ofC, strip, lkT, lkH, ISt.app, opI, gO, gB, allB, gval, wrapG, dstOK, setD, mentTm, mentHp, IV.ment, IV.mentL, partsL, eltsI, eltI, oneI, noId', lendV, lendP, lent, lentP, idsV, idsL, flat, clean, callArgs, callFn, allLent, enumT, Gives, Ideal.Fin, conv, conv0, convL, IBlk.shape, Op.operands, Call.operands, List.append_toArray, reduceIte, reduceCtorEq, cond_true, cond_false, Bool.or_false, Bool.or_true, Bool.and_true, Bool.not_true, Bool.not_false, Nat.reduceAdd, Nat.reduceSub, Nat.reduceMul, Nat.reduceLT, Nat.reduceLeDiff, Nat.reduceEqDiff, Nat.reduceBEq, Nat.add_zero, Nat.zero_add, ne_eq, not_false_eq_true, beq_self_eq_true, true_and, and_true, false_and, and_false, and_self, false_implies, implies_true, forall_const, List.map_cons, List.map_nil, List.nil_append, List.cons_append, List.append_nil, List.all_cons, List.all_nil, Option.some.injEq, Option.map_some, Option.map_none, Option.bind_some, List.getElem?_cons_zero, List.getElem?_cons_succ, List.getD_cons_zero, List.getD_cons_succ, List.length_cons, List.length_nil, List.take_succ_cons, List.take_zero, List.take_nil, List.drop_succ_cons, List.drop_zero, List.drop_nil, ex_clo, or_true, Bool.true_eq_false, Bool.false_eq_true, tab3, tab23, tab24, tab32, hN, Int.toNat_natCast, isPs_enc, toPs_enc, isBy_enc, toBy_enc, SLe0, convTm, convHp, convB, sm, effH, mkHC0, mkHC1, lendM, lentM, lentI, allHere, addIds, idsB, flatIds, reach, posn, renV, renL, renB, renH, numB, subHp, fwd, bk, bwd, nones, keyOK, noSl, noSlL, flatBs, List.contains, List.elem, Option.isSome_some, Option.isSome_none, List.nodup_nil, List.nodup_cons, List.not_mem_nil, or_false, Option.getD_some, lk_spec_DrawIsDelaunay_spec_SweepTriangles, lk_spec_DrawIsDelaunay_spec_Delaunay, sp_spec_SweepTriangles, sp_spec_Delaunay, lh_spec_DrawIsDelaunay_spec_SweepTriangles, lh_spec_DrawIsDelaunay_spec_Delaunay, lh_spec_DrawIsDelaunay_spec_newReader, lh_spec_DrawIsDelaunay_spec_anySites, lh_spec_DrawIsDelaunay_spec_reader_pick, hs_spec_newReader, hs_spec_anySites, hs_spec_reader_pick, rdr, hsz, hbt, hd, hP, hp, q1, q2, q3, q4, eP, wP, eW, d0, hL, eL, d1, d2, g0, hset, tn0, hk]
        exact ⟨by omega, by omega, by omega, by omega, ⟨by omega, by omega⟩, ⟨_, _, _, rfl⟩, by omega, _, _, rfl, by rw [len_encTs, List.length_set]; exact Nat.le_refl _, (List.take_of_length_le (by rw [len_encTs, List.length_set]; exact Nat.le_refl _)).symm⟩
      · have d2 : (pickI (b.take 2000) (p + 1) 8 == 0) = false := by simpa using c2
        rw [if_neg (fun h => c2 h.2)] at hk
        simp only [V_seq, V_skip, V_ret, V_region, V_cond, brW_true, brW_false, W_nil, W_cons, effOp2, KN_seq, KXr_nil, QE, asB, effOp, effPure, effPick, effNew, effBuildSlice, effFrz, frz, tmpsOf, effAppend, effZeros, effCall, giveUp, hasAll, Option.isSome_some, skipE, pureV, pickV, srcV, refId, binV, lenV, ofC, strip, lkT, lkH, ISt.app, opI, gO, gB, allB, gval, wrapG, dstOK, setD, mentTm, mentHp, IV.ment, IV.mentL, partsL, eltsI, lendV, lendP, lent, lentP, idsV, idsL, flat, clean, callArgs, callFn, allLent, enumT, Gives, Ideal.Fin, conv, conv0, convL, IBlk.shape, Op.operands, Call.operands, List.append_toArray, reduceIte, reduceCtorEq, cond_true, cond_false, Bool.or_false, Bool.or_true, Bool.and_true, Bool.not_true, Bool.not_false, Nat.reduceAdd, Nat.reduceSub, Nat.reduceMul, Nat.reduceLT, Nat.reduceLeDiff, Nat.reduceEqDiff, Nat.reduceBEq, Nat.add_zero, Nat.zero_add, ne_eq, not_false_eq_true, beq_self_eq_true, true_and, and_true, and_false, and_self, false_implies, implies_true, List.map_cons, List.map_nil, List.nil_append, List.cons_append, List.append_nil, List.all_nil, Option.some.injEq, Option.map_some, Option.map_none, Option.bind_some, List.getElem?_cons_zero, List.getElem?_cons_succ, List.getD_cons_zero, List.length_nil, List.take_nil, List.drop_zero, ex_clo, or_true, Bool.true_eq_false, Bool.false_eq_true, tab24, tab32, hN, Int.toNat_natCast, isPs_enc, toPs_enc, isBy_enc, toBy_enc, SLe0, convTm, convHp, convB, sm, effH, mkHC0, mkHC1, lendM, lentM, lentI, allHere, addIds, idsB, flatIds, reach, posn, renV, renL, renB, renH, numB, subHp, fwd, bk, bwd, nones, keyOK, noSl, noSlL, flatBs, List.contains, List.elem, Option.isSome_some, Option.isSome_none, List.nodup_nil, List.nodup_cons, List.not_mem_nil, or_false, Option.getD_some, lk_spec_DrawIsDelaunay_spec_SweepTriangles, lk_spec_DrawIsDelaunay_spec_Delaunay, sp_spec_SweepTriangles, sp_spec_Delaunay, lh_spec_DrawIsDelaunay_spec_SweepTriangles, lh_spec_DrawIsDelaunay_spec_Delaunay, lh_spec_DrawIsDelaunay_spec_newReader, lh_spec_DrawIsDelaunay_spec_anySites, lh_spec_DrawIsDelaunay_spec_reader_pick, hs_spec_newReader, hs_spec_anySites, hs_spec_reader_pick, rdr, hsz, hbt, hd, hP, hp, q1, q2, eW, d0, hL, eL, d1, d2, hk]
        exact ⟨by omega, by omega, by omega, by omega, _, _, rfl, by omega, tL.symm⟩
    · have d1 : decide ((0 : Int) < (L.length : Int)) = false := decide_eq_false (by omega)
      rw [if_neg (fun h => c1 h.1)] at hk
      simp only [V_seq, V_skip, V_ret, V_region, V_cond, brW_true, brW_false, W_nil, W_cons, effOp2, KN_seq, KXr_nil, QE, asB, effOp, effPure, effPick, effNew, effBuildSlice, effFrz, frz, tmpsOf, effAppend, effZeros, effCall, giveUp, hasAll, Option.isSome_some, skipE, pureV, pickV, srcV, refId, binV, lenV, ofC, strip, lkT, lkH, ISt.app, opI, gO, gB, allB, gval, wrapG, dstOK, setD, mentTm, mentHp, IV.ment, IV.mentL, partsL, eltsI, lendV, lendP, lent, lentP, idsV, idsL, flat, clean, callArgs, callFn, allLent, enumT, Gives, Ideal.Fin, conv, conv0, convL, IBlk.shape, Op.operands, Call.operands, List.append_toArray, reduceIte, reduceCtorEq, cond_true, cond_false, Bool.or_false, Bool.or_true, Bool.and_true, Bool.not_true, Bool.not_false, Nat.reduceAdd, Nat.reduceSub, Nat.reduceMul, Nat.reduceLT, Nat.reduceLeDiff, Nat.reduceEqDiff, Nat.reduceBEq, Nat.add_zero, Nat.zero_add, ne_eq, not_false_eq_true, beq_self_eq_true, true_and, and_true, false_and, and_false, and_self, false_implies, implies_true, List.map_cons, List.map_nil, List.nil_append, List.cons_append, List.append_nil, List.all_nil, Option.some.injEq, Option.map_some, Option.map_none, Option.bind_some, List.getElem?_cons_zero, List.getElem?_cons_succ, List.getD_cons_zero, List.length_nil, List.take_nil, List.drop_zero, ex_clo, bft, or_true, Bool.true_eq_false, Bool.false_eq_true, tab24, tab32, hN, Int.toNat_natCast, isPs_enc, toPs_enc, isBy_enc, toBy_enc, SLe0, convTm, convHp, convB, sm, effH, mkHC0, mkHC1, lendM, lentM, lentI, allHere, addIds, idsB, flatIds, reach, posn, renV, renL, renB, renH, numB, subHp, fwd, bk, bwd, nones, keyOK, noSl, noSlL, flatBs, List.contains, List.elem, Option.isSome_some, Option.isSome_none, List.nodup_nil, List.nodup_cons, List.not_mem_nil, or_false, Option.getD_some, lk_spec_DrawIsDelaunay_spec_SweepTriangles, lk_spec_DrawIsDelaunay_spec_Delaunay, sp_spec_SweepTriangles, sp_spec_Delaunay, lh_spec_DrawIsDelaunay_spec_SweepTriangles, lh_spec_DrawIsDelaunay_spec_Delaunay, lh_spec_DrawIsDelaunay_spec_newReader, lh_spec_DrawIsDelaunay_spec_anySites, lh_spec_DrawIsDelaunay_spec_reader_pick, hs_spec_newReader, hs_spec_anySites, hs_spec_reader_pick, rdr, hsz, hbt, hd, hP, hp, q1, q2, eW, d0, hL, eL, d1, hk]
      exact ⟨by omega, by omega, by omega, _, _, rfl, by omega, tL.symm⟩
  · have d0 : (pickI (b.take 2000) p 2 == 0) = false := by simpa using c0
    have hk := key (swV P) (if_neg c0)
    obtain ⟨L, hL⟩ : ∃ L, swV P = L := ⟨_, rfl⟩
    rw [hL] at hk hl1 eW tW
    by_cases c1 : 0 < L.length
    · have d1 : decide ((0 : Int) < (L.length : Int)) = true := decide_eq_true (by omega)
      by_cases c2 : pickI (b.take 2000) (p + 1) 8 = 0
      · have d2 : (pickI (b.take 2000) (p + 1) 8 == 0) = true := by simpa using c2
        rw [if_pos ⟨c1, c2⟩] at hk
        have g0 := getD_encTs (l := L) (i := 0) c1
        have hset := encTs_set L 0 ((tAt L 0).1, (tAt L 0).2.1, pickI (b.take 2000) (p + 1 + 1) ((P.length : Int) + 1))
        simp only [V_seq, V_skip, V_ret, V_region, V_cond, brW_true, brW_false, W_nil, W_cons, effOp2, KN_seq, KXr_nil, QE, asB, effOp, effPure, effPick, effNew, effBuildSlice, effFrz, frz, tmpsOf, effStore, effAppend, effZeros, effCall, giveUp, hasAll, Option.isSome_some, skipE, pureV, pickV, storeV, srcV, refId, binV, faddrV, iaddrV, lenV, over, solid, IV.cells, ofC, strip, lkT, lkH, ISt.app, opI, gO, gB, allB, gval, wrapG, dstOK, setD, mentTm, mentHp, IV.ment, IV.mentL, partsL, eltsI, eltI, oneI, noId', lendV, lendP, lent, lentP, idsV, idsL, flat, clean, callArgs, callFn, allLent, enumT, Gives, Ideal.Fin, conv, conv0, convL, IBlk.shape, Op.operands, Call.operands, List.append_toArray, reduceIte, reduceCtorEq, cond_true, cond_false, Bool.or_false, Bool.or_true, Bool.and_true, Bool.not_true, Bool.not_false, Nat.reduceAdd, Nat.reduceSub, Nat.reduceMul, Nat.reduceLT, Nat.reduceLeDiff, Nat.reduceEqDiff, Nat.reduceBEq, Nat.add_zero, Nat.zero_add, ne_eq, not_false_eq_true, beq_self_eq_true, true_and, and_true, false_and, and_false, and_self, false_implies, implies_true, forall_const, List.map_cons, List.map_nil, List.nil_append, List.cons_append, List.append_nil, List.all_cons, List.all_nil, Option.some.injEq, Option.map_some, Option.map_none, Option.bind_some, List.getElem?_cons_zero, List.getElem?_cons_succ, List.getD_cons_zero, List.getD_cons_succ, List.length_cons, List.length_nil, List.take_succ_cons, List.take_zero, List.take_nil, List.drop_succ_cons, List.drop_zero, List.drop_nil, ex_clo, or_true, Bool.true_eq_false, Bool.false_eq_true, tab3, tab23, tab24, tab32, hN, Int.toNat_natCast, isPs_enc, toPs_enc, isBy_enc, toBy_enc, SLe0, convTm, convHp, convB, sm, effH, mkHC0, mkHC1, lendM, lentM, lentI, allHere, addIds, idsB, flatIds, reach, posn, renV, renL, renB, renH, numB, subHp, fwd, bk, bwd, nones, keyOK, noSl, noSlL, flatBs, List.contains, List.elem, Option.isSome_some, Option.isSome_none, List.nodup_nil, List.nodup_cons, List.not_mem_nil, or_false, Option.getD_some, lk_spec_DrawIsDelaunay_spec_SweepTriangles, sp_spec_SweepTriangles, lh_spec_DrawIsDelaunay_spec_SweepTriangles, lh_spec_DrawIsDelaunay_spec_newReader, lh_spec_DrawIsDelaunay_spec_anySites, lh_spec_DrawIsDelaunay_spec_reader_pick, hs_spec_newReader, hs_spec_anySites, hs_spec_reader_pick, rdr, hsz, hbt, hd, hP, hp, q1, q2, q3, q4, eP, wP, eW, d0, hL, d1, d2, g0, hset, tn0, hk]
        exact ⟨by omega, by omega, by omega, ⟨by omega, by omega⟩, ⟨_, _, _, rfl⟩, by omega, _, _, rfl, by rw [len_encTs, List.length_set]; exact Nat.le_refl _, (List.take_of_length_le (by rw [len_encTs, List.length_set]; exact Nat.le_refl _)).symm⟩
      · have d2 : (pickI (b.take 2000) (p + 1) 8 == 0) = false := by simpa using c2
        rw [if_neg (fun h => c2 h.2)] at hk
        simp only [V_seq, V_skip, V_ret, V_region, V_cond, brW_false, W_nil, W_cons, effOp2, KN_seq, KXr_nil, QE, asB, effOp, effPure, effPick, effNew, effBuildSlice, effFrz, frz, tmpsOf, effAppend, effZeros, effCall, giveUp, hasAll, Option.isSome_some, skipE, pureV, pickV, srcV, refId, binV, lenV, ofC, strip, lkT, lkH, ISt.app, opI, gO, gB, allB, gval, wrapG, dstOK, setD, mentTm, mentHp, IV.ment, IV.mentL, partsL, eltsI, lendV, lendP, lent, lentP, idsV, idsL, flat, clean, callArgs, callFn, allLent, enumT, Gives, Ideal.Fin, conv, conv0, convL, IBlk.shape, Op.operands, Call.operands, List.append_toArray, reduceIte, reduceCtorEq, cond_true, cond_false, Bool.or_false, Bool.or_true, Bool.and_true, Bool.not_true, Bool.not_false, Nat.reduceAdd, Nat.reduceSub, Nat.reduceMul, Nat.reduceLT, Nat.reduceLeDiff, Nat.reduceEqDiff, Nat.reduceBEq, Nat.add_zero, Nat.zero_add, ne_eq, not_false_eq_true, beq_self_eq_true, true_and, and_true, and_false, and_self, false_implies, implies_true, List.map_cons, List.map_nil, List.nil_append, List.cons_append, List.append_nil, List.all_nil, Option.some.injEq, Option.map_some, Option.map_none, Option.bind_some, List.getElem?_cons_zero, List.getElem?_cons_succ, List.getD_cons_zero, List.length_nil, List.take_nil, List.drop_zero, ex_clo, or_true, Bool.true_eq_false, Bool.false_eq_true, tab24, tab32, hN, Int.toNat_natCast, isPs_enc, toPs_enc, isBy_enc, toBy_enc, SLe0, convTm, convHp, convB, sm, effH, mkHC0, mkHC1, lendM, lentM, lentI, allHere, addIds, idsB, flatIds, reach, posn, renV, renL, renB, renH, numB, subHp, fwd, bk, bwd, nones, keyOK, noSl, noSlL, flatBs, List.contains, List.elem, Option.isSome_some, Option.isSome_none, List.nodup_nil, List.nodup_cons, List.not_mem_nil, or_false, Option.getD_some, lk_spec_DrawIsDelaunay_spec_SweepTriangles, sp_spec_SweepTriangles, lh_spec_DrawIsDelaunay_spec_SweepTriangles, lh_spec_DrawIsDelaunay_spec_newReader, lh_spec_DrawIsDelaunay_spec_anySites, lh_spec_DrawIsDelaunay_spec_reader_pick, hs_spec_newReader, hs_spec_anySites, hs_spec_reader_pick, rdr, hsz, hbt, hd, hP, hp, q1, q2, eW, d0, hL, d1, d2, hk]
        exact ⟨by omega, by omega, by omega, _, _, rfl, by omega, tW.symm⟩
    · have d1 : decide ((0 : Int) < (L.length : Int)) = false := decide_eq_false (by omega)
      rw [if_neg (fun h => c1 h.1)] at hk
      simp only [V_seq, V_skip, V_ret, V_region, V_cond, brW_false, W_nil, W_cons, effOp2, KN_seq, KXr_nil, QE, asB, effOp, effPure, effPick, effNew, effBuildSlice, effFrz, frz, tmpsOf, effAppend, effZeros, effCall, giveUp, hasAll, Option.isSome_some, skipE, pureV, pickV, srcV, refId, binV, lenV, ofC, strip, lkT, lkH, ISt.app, opI, gO, gB, allB, gval, wrapG, dstOK, setD, mentTm, mentHp, IV.ment, IV.mentL, partsL, eltsI, lendV, lendP, lent, lentP, idsV, idsL, flat, clean, callArgs, callFn, allLent, enumT, Gives, Ideal.Fin, conv, conv0, convL, IBlk.shape, Op.operands, Call.operands, List.append_toArray, reduceIte, reduceCtorEq, cond_true, cond_false, Bool.or_false, Bool.or_true, Bool.and_true, Bool.not_true, Bool.not_false, Nat.reduceAdd, Nat.reduceSub, Nat.reduceMul, Nat.reduceLT, Nat.reduceLeDiff, Nat.reduceEqDiff, Nat.reduceBEq, Nat.add_zero, Nat.zero_add, ne_eq, not_false_eq_true, beq_self_eq_true, true_and, and_true, false_and, and_false, and_self, false_implies, implies_true, List.map_cons, List.map_nil, List.nil_append, List.cons_append, List.append_nil, List.all_nil, Option.some.injEq, Option.map_some, Option.map_none, Option.bind_some, List.getElem?_cons_zero, List.getElem?_cons_succ, List.getD_cons_zero, List.length_nil, List.take_nil, List.drop_zero, ex_clo, bft, or_true, Bool.true_eq_false, Bool.false_eq_true, tab24, tab32, hN, Int.toNat_natCast, isPs_enc, toPs_enc, isBy_enc, toBy_enc, SLe0, convTm, convHp, convB, sm, effH, mkHC0, mkHC1, lendM, lentM, lentI, allHere, addIds, idsB, flatIds, reach, posn, renV, renL, renB, renH, numB, subHp, fwd, bk, bwd, nones, keyOK, noSl, noSlL, flatBs, List.contains, List.elem, Option.isSome_some, Option.isSome_none, List.nodup_nil, List.nodup_cons, List.not_mem_nil, or_false, Option.getD_some, lk_spec_DrawIsDelaunay_spec_SweepTriangles, sp_spec_SweepTriangles, lh_spec_DrawIsDelaunay_spec_SweepTriangles, lh_spec_DrawIsDelaunay_spec_newReader, lh_spec_DrawIsDelaunay_spec_anySites, lh_spec_DrawIsDelaunay_spec_reader_pick, hs_spec_newReader, hs_spec_anySites, hs_spec_reader_pick, rdr, hsz, hbt, hd, hP, hp, q1, q2, eW, d0, hL, d1, hk]
      exact ⟨by omega, by omega, _, _, rfl, by omega, tW.symm⟩
def sp_spec_DrawIsDelaunay : PSpec := ⟨fun xs => match xs with | [.sl 1 bes] => isBy bes ∧ ((fun (b : List Int) => ∀ x ∈ b, 0 ≤ x ∧ x < 256) (toIs bes)) ∧ ((fun (b : List Int) => b.length ≤ 1048576) (toIs bes)) | _ => False, fun xs => match xs with | [.sl _ bes] => (fun (b : List Int) => .tup [.sl 2 (encPs (drawIP b)), .sl 3 (encTs (drawIT b))]) (toIs bes) | _ => .junk, false⟩
theorem gk_spec_DrawIsDelaunay : ∀ args, sp_spec_DrawIsDelaunay.pre args → ICall Try.prog 7 args (sp_spec_DrawIsDelaunay.val args) := by
  intro args h
  unfold sp_spec_DrawIsDelaunay at h ⊢; simp only at h ⊢; split at h
  · obtain ⟨h0, h1, h2⟩ := h
    obtain ⟨l0, rfl⟩ := isBy_ex h0
    simp only [toBy_enc] at *
    exact c_spec_DrawIsDelaunay _ h1 h2
  · exact h.elim
theorem en_spec_DrawIsDelaunay : Enters Try.prog 7 := enters_of Try.func7 (by kernel_rfl) rfl

def g_impl_InCircle : List (Nat × PSpec) := [(40, sp_impl_allValid), (41, sp_impl_turn), (37, sp_impl_inCircle)]
theorem gok_impl_InCircle : GOK Try.prog g_impl_InCircle := gok_cons gk_impl_allValid en_impl_allValid (gok_cons gk_impl_turn en_impl_turn (gok_cons gk_impl_inCircle en_impl_inCircle (gok0)))
theorem lk_impl_InCircle_impl_allValid : lkG g_impl_InCircle 40 = sp_impl_allValid := rfl
theorem lk_impl_InCircle_impl_turn : lkG g_impl_InCircle 41 = sp_impl_turn := rfl
theorem lk_impl_InCircle_impl_inCircle : lkG g_impl_InCircle 37 = sp_impl_inCircle := rfl
def h_impl_InCircle : List (Nat × HSpec) := []
theorem hok_impl_InCircle : HOK Try.prog h_impl_InCircle := hok0
theorem c_impl_InCircle (a : Pt) (b : Pt) (c : Pt) (d : Pt) (ha : okP a = true) (hb : okP b = true) (hc : okP c = true) (hd : okP d = true) (ht : turn a b c ≠ 0) : ICall Try.prog 10 [encP a, encP b, encP c, encP d] (.num .i64 (sgnI (inC a b c d) * sgnI (turn a b c))) := by
  refine icall_V (G := g_impl_InCircle) (H := []) [] tabOK mixed gok_impl_InCircle hok_impl_InCircle Try.func10 rfl Try.ntmps10 Try.results10 rfl (by kernel_rfl) fun F hN hlen => ?_
  have s1 := okP_sm ha
  have s2 := okP_sm hb
  have s3 := okP_sm hc
  have v1 := okP_vp ha
  have v2 := okP_vp hb
  have v3 := okP_vp hc
  have v4 := okP_vp hd
  have d0 : (turn a b c == 0) = false := by rw [beq_eq_false_iff_ne]; exact ht
  simp only [V_seq, V_skip, V_ret, V_region, V_cond, brW_false, W_nil, W_cons, effOp2, KN_seq, KXr_nil, QE, asB, effOp, effPure, effPick, effNew, effBox, effBuildSlice, effFrz, frz, tmpsOf, effCall, giveUp, hasAll, Option.isSome_some, skipE, pureV, pickV, binV, partV, loadV, solid, IV.cells, ofC, strip, lkT, lkH, ISt.app, opI, gO, gB, allB, gval, wrapG, dstOK, setD, mentTm, mentHp, IV.ment, IV.mentL, partsL, eltsI, eltI, oneI, noId', lendV, lendP, lent, lentP, idsV, idsL, lkHS, flat, clean, callArgs, callFn, allLent, enumT, Gives, Ideal.Fin, conv, conv0, Op.operands, reduceIte, reduceCtorEq, cond_true, cond_false, Bool.or_false, Bool.and_true, Bool.not_true, Nat.reduceAdd, Nat.reduceMul, Nat.reduceLT, Nat.reduceLeDiff, Nat.reduceEqDiff, Nat.reduceBEq, Nat.zero_add, ne_eq, not_false_eq_true, beq_self_eq_true, and_false, and_self, implies_true, List.map_cons, List.map_nil, List.nil_append, List.cons_append, List.append_nil, List.all_cons, List.all_nil, Option.bind_some, List.getElem?_cons_zero, List.getElem?_cons_succ, List.getD_cons_zero, List.length_cons, List.length_nil, List.take_succ_cons, List.take_nil, List.drop_zero, ex_clo, or_self, Bool.false_eq_true, tab23, tab30, hN, pe, encP, isPs_nil, toPs_nil, isPs_cons, toPs_cons, lk_impl_InCircle_impl_allValid, lk_impl_InCircle_impl_turn, lk_impl_InCircle_impl_inCircle, sp_impl_allValid, sp_impl_turn, sp_impl_inCircle, ha, hb, hc, hd, s1, s2, s3, v1, v2, v3, v4, d0, List.all_cons, List.all_nil]
def sp_impl_InCircle : PSpec := ⟨fun xs => match xs with | [.agg [.num .i64 a1, .num .i64 a2], .agg [.num .i64 b1, .num .i64 b2], .agg [.num .i64 c1, .num .i64 c2], .agg [.num .i64 d1, .num .i64 d2]] => ((fun (a : Pt) (b : Pt) (c : Pt) (d : Pt) => okP a = true) (a1, a2) (b1, b2) (c1, c2) (d1, d2)) ∧ ((fun (a : Pt) (b : Pt) (c : Pt) (d : Pt) => okP b = true) (a1, a2) (b1, b2) (c1, c2) (d1, d2)) ∧ ((fun (a : Pt) (b : Pt) (c : Pt) (d : Pt) => okP c = true) (a1, a2) (b1, b2) (c1, c2) (d1, d2)) ∧ ((fun (a : Pt) (b : Pt) (c : Pt) (d : Pt) => okP d = true) (a1, a2) (b1, b2) (c1, c2) (d1, d2)) ∧ ((fun (a : Pt) (b : Pt) (c : Pt) (d : Pt) => turn a b c ≠ 0) (a1, a2) (b1, b2) (c1, c2) (d1, d2)) | _ => False, fun xs => match xs with | [.agg [.num _ a1, .num _ a2], .agg [.num _ b1, .num _ b2], .agg [.num _ c1, .num _ c2], .agg [.num _ d1, .num _ d2]] => (fun (a : Pt) (b : Pt) (c : Pt) (d : Pt) => .num .i64 (sgnI (inC a b c d) * sgnI (turn a b c))) (a1, a2) (b1, b2) (c1, c2) (d1, d2) | _ => .junk, false⟩
theorem gk_impl_InCircle : ∀ args, sp_impl_InCircle.pre args → ICall Try.prog 10 args (sp_impl_InCircle.val args) := by
  intro args h
  unfold sp_impl_InCircle at h ⊢; simp only at h ⊢; split at h
  · obtain ⟨h0, h1, h2, h3, h4⟩ := h
    simp only [toPs_enc] at *
    exact c_impl_InCircle (_, _) (_, _) (_, _) (_, _) h0 h1 h2 h3 h4
  · exact h.elim
theorem en_impl_InCircle : Enters Try.prog 10 := enters_of Try.func10 (by kernel_rfl) rfl

theorem delB_take {l : List Pt} {ts : List Tr} (h : delB l ts = true) (k : Nat) : delB l (ts.take k) = true := by
  simp only [delB, Bool.and_eq_true, decide_eq_true_eq, List.all_eq_true] at h ⊢
  exact ⟨⟨h.1.1, by rw [List.length_take]; omega⟩, fun t ht => h.2 t (List.mem_of_mem_take ht)⟩
theorem delB_at {l : List Pt} {ts : List Tr} (h : delB l ts = true) : siteB l = true ∧ ts.length ≤ 40 ∧ ∀ i, i < ts.length → delT l (tAt ts i) = true := by
  simp only [delB, Bool.and_eq_true, decide_eq_true_eq, List.all_eq_true] at h
  exact ⟨h.1.1, h.1.2, fun i hi => h.2 _ (by rw [tAt, List.getD, List.getElem?_eq_getElem hi]; exact List.getElem_mem hi)⟩
def g_laws_FnIsDelaunay : List (Nat × PSpec) := [(7, sp_spec_DrawIsDelaunay), (8, sp_impl_IsDelaunay), (9, sp_spec_IsDelaunay), (10, sp_impl_InCircle)]
theorem gok_laws_FnIsDelaunay : GOK Try.prog g_laws_FnIsDelaunay := gok_cons gk_spec_DrawIsDelaunay en_spec_DrawIsDelaunay (gok_cons gk_impl_IsDelaunay en_impl_IsDelaunay (gok_cons gk_spec_IsDelaunay en_spec_IsDelaunay (gok_cons gk_impl_InCircle en_impl_InCircle (gok0))))
theorem lk_laws_FnIsDelaunay_spec_DrawIsDelaunay : lkG g_laws_FnIsDelaunay 7 = sp_spec_DrawIsDelaunay := rfl
theorem lk_laws_FnIsDelaunay_impl_IsDelaunay : lkG g_laws_FnIsDelaunay 8 = sp_impl_IsDelaunay := rfl
theorem lk_laws_FnIsDelaunay_spec_IsDelaunay : lkG g_laws_FnIsDelaunay 9 = sp_spec_IsDelaunay := rfl
theorem lk_laws_FnIsDelaunay_impl_InCircle : lkG g_laws_FnIsDelaunay 10 = sp_impl_InCircle := rfl
def h_laws_FnIsDelaunay : List (Nat × HSpec) := []
theorem hok_laws_FnIsDelaunay : HOK Try.prog h_laws_FnIsDelaunay := hok0
theorem c_laws_FnIsDelaunay (b : List Int) (c : List Int) (hb : ∀ x ∈ b, 0 ≤ x ∧ x < 256) (hc : ∀ x ∈ c, 0 ≤ x ∧ x < 256) : ICall Try.prog 3 [.sl 1 (encBy b), .sl 1 (encBy c)] (.bool true) := by
  refine icall_V (G := g_laws_FnIsDelaunay) (H := []) [(11, [(0, 32), (1, 32), (2, 32), (3, 32), (4, 32), (5, 32), (6, 32), (8, 32), (9, 32), (10, 32), (11, 32), (12, 32), (13, 32), (14, 32), (16, 32), (17, 32), (18, 32), (19, 32), (20, 32), (21, 32), (22, 32), (24, 32), (25, 32), (26, 32), (27, 32), (28, 32), (29, 32), (30, 32)])] tabOK mixed gok_laws_FnIsDelaunay hok_laws_FnIsDelaunay Try.func3 rfl Try.ntmps3 Try.results3 rfl (by kernel_rfl) fun F hN hlen => ?_
  have eb := len_encBy b
  have ec := len_encBy c
  have bb : ∀ x : Bool, (x != x) = false := fun x => by simp
  have bb2 : ∀ x : Bool, (x == x) = true := fun x => by simp
  cases d1 : decide (1048576 < (b.length : Int)) with
  | true => simp only [V_seq, V_ret, V_region, V_cond, brW_true, W_nil, W_cons, effOp2, KN_seq, KXr_nil, KXr_seq, QE, asB, effOp, effPure, effPick, pureV, pickV, binV, lenV, ofC, strip, lkT, lkH, ISt.app, opI, gO, gB, allB, gval, wrapG, dstOK, setD, clean, enumT, Gives, Ideal.Fin, conv, conv0, Op.operands, Call.operands, List.append_toArray, reduceIte, reduceCtorEq, cond_true, Nat.reduceLT, Nat.reduceEqDiff, Nat.zero_add, ne_eq, not_false_eq_true, and_true, and_self, false_implies, implies_true, List.nil_append, List.cons_append, List.append_nil, Option.bind_some, List.getElem?_cons_zero, List.getElem?_cons_succ, btf, Bool.true_eq_false, Bool.false_eq_true, tab22, hN, eb, d1]
  | false =>
    cases d2 : decide (1048576 < (c.length : Int)) with
    | true => simp only [V_seq, V_ret, V_region, V_cond, brW_true, W_nil, W_cons, effOp2, KN_seq, KXr_nil, KXr_seq, QE, asB, effOp, effPure, effPick, pureV, pickV, binV, lenV, ofC, strip, lkT, lkH, ISt.app, opI, gO, gB, allB, gval, wrapG, dstOK, setD, clean, enumT, Gives, Ideal.Fin, conv, conv0, Op.operands, Call.operands, List.append_toArray, reduceIte, reduceCtorEq, cond_false, Nat.reduceLT, Nat.reduceEqDiff, Nat.zero_add, ne_eq, not_false_eq_true, beq_self_eq_true, and_self, implies_true, List.nil_append, List.cons_append, List.append_nil, Option.bind_some, List.getElem?_cons_zero, List.getElem?_cons_succ, Bool.false_eq_true, tab22, hN, eb, ec, d1, d2]
    | false =>
      have hsz : b.length ≤ 1048576 := by simp at d1; omega
      have hsc : c.length ≤ 1048576 := by simp at d2; omega
      obtain ⟨P, hP⟩ : ∃ P, drawIP b = P := ⟨_, rfl⟩
      obtain ⟨L, hL⟩ : ∃ L, drawIT b = L := ⟨_, rfl⟩
      have eP := len_encPs P
      have eL := len_encTs L
      cases hs : delB P L with
      | false =>
        simp only [V_seq, V_skip, V_ret, V_region, V_cond, brW_true, brW_false, W_nil, W_cons, effOp2, KN_seq, KXr_nil, KXr_seq, QE, asB, effOp, effPure, effPick, effCall, giveUp, hasAll, pureV, pickV, binV, lenV, ofC, strip, lkT, lkH, ISt.app, opI, gO, gB, allB, gval, wrapG, dstOK, setD, lendV, lendP, lent, lentP, idsV, idsL, lkHS, flat, flatL, clean, cleanL, callArgs, callFn, allLent, enumT, Gives, Ideal.Fin, conv, conv0, Op.operands, Call.operands, List.append_toArray, reduceIte, reduceCtorEq, cond_true, cond_false, Bool.or_false, Bool.and_true, Bool.and_false, Bool.not_true, Bool.not_false, Nat.reduceAdd, Nat.reduceLT, Nat.reduceEqDiff, Nat.zero_add, ne_eq, not_false_eq_true, beq_self_eq_true, true_and, and_true, and_self, implies_true, forall_const, List.map_cons, List.map_nil, List.nil_append, List.cons_append, List.append_nil, Option.bind_some, List.getElem?_cons_zero, List.getElem?_cons_succ, List.getD_cons_zero, List.getD_cons_succ, List.length_cons, List.length_nil, ex_clo, or_true, or_self, Bool.false_eq_true, tab4, tab22, hN, isPs_enc, toPs_enc, isTs_enc, toTs_enc, isBy_enc, toBy_enc, lk_laws_FnIsDelaunay_spec_DrawIsDelaunay, lk_laws_FnIsDelaunay_impl_IsDelaunay, lk_laws_FnIsDelaunay_spec_IsDelaunay, sp_spec_DrawIsDelaunay, sp_impl_IsDelaunay, sp_spec_IsDelaunay, eb, ec, d1, d2, hsz, hP, hL, hs]
        exact hb
      | true =>
        obtain ⟨h1, h2, h3⟩ := delB_at hs
        have hk : okPs P = true := (site_facts h1).1
        have h20 := okPs_len hk
        obtain ⟨k, hk0⟩ : ∃ k, c.length % (L.length + 1) = k := ⟨_, rfl⟩
        have hkl : k ≤ L.length := by have := Nat.mod_lt c.length (show 0 < L.length + 1 by omega); omega
        have w1 : IntKind.i64.wrap ((L.length : Int) + 1) = ((L.length + 1 : Nat) : Int) := by rw [wr (by omega) (by omega)]; omega
        have d4 : (((L.length + 1 : Nat) : Int) == 0) = false := by simp; omega
        have t1 : (c.length : Int).tmod ((L.length + 1 : Nat) : Int) = (k : Int) := by rw [Int.tmod_eq_emod_of_nonneg (by omega), ← hk0]; simp
        have tk : Int.toNat (k : Int) = k := Int.toNat_natCast k
        have hT := delB_take hs k
        have etk : (encTs L).take k = encTs (L.take k) := by simp [encTs, List.map_take]
        simp only [V_seq, V_skip, V_block, V_region, V_cond, brW_false, W_nil, W_cons, effOp2, KN_seq, asB, effOp, effPure, effPick, effCall, giveUp, hasAll, pureV, pickV, binV, lenV, ofC, strip, lkT, lkH, ISt.app, opI, gO, gB, allB, gval, wrapG, dstOK, setD, lendV, lendP, lent, lentP, idsV, idsL, lkHS, flat, flatL, clean, cleanL, callArgs, callFn, allLent, enumT, Op.operands, Call.operands, List.append_toArray, reduceIte, reduceCtorEq, cond_true, cond_false, Bool.or_false, Bool.and_true, Bool.and_false, Bool.not_true, Nat.reduceAdd, Nat.reduceLT, Nat.reduceEqDiff, Nat.zero_add, ne_eq, not_false_eq_true, beq_self_eq_true, true_and, and_true, and_self, implies_true, forall_const, List.map_cons, List.map_nil, List.nil_append, List.cons_append, List.append_nil, Option.bind_some, List.getElem?_cons_zero, List.getElem?_cons_succ, List.getD_cons_zero, List.getD_cons_succ, List.length_cons, List.length_nil, ex_clo, or_true, or_self, Bool.false_eq_true, tab4, tab22, tab24, hN, isPs_enc, toPs_enc, isTs_enc, toTs_enc, isBy_enc, toBy_enc, lk_laws_FnIsDelaunay_spec_DrawIsDelaunay, lk_laws_FnIsDelaunay_impl_IsDelaunay, lk_laws_FnIsDelaunay_spec_IsDelaunay, sp_spec_DrawIsDelaunay, sp_impl_IsDelaunay, sp_spec_IsDelaunay, eb, ec, d1, d2, hsz, hP, hL, eL, hs, w1, t1]
        refine ⟨hb, by omega, ?_⟩
        refine V_loop (α := Nat) ⟨tabOK, mixed, gok_laws_FnIsDelaunay, hok_laws_FnIsDelaunay⟩ (by kernel_rfl) (fun i => i ≤ L.length) (fun i => ⟨[(9, .num .i64 i), (8, .num .i64 k), (6, .sl 3 (encTs L)), (5, .sl 2 (encPs P)), (1, .sl 1 (encBy c))], []⟩) (fun i => L.length - i) 0 id (Nat.zero_le _) (by simp [SLe, SLe0, convTm, convHp, conv, conv0, lkT, lkH, clean]) ?_
        intro i hi
        simp only [V_seq, V_region, V_cond, W_nil, W_cons, effOp2, KN_seq, asB, effOp, effPure, pureV, binV, lenV, strip, lkT, ISt.app, opI, gO, gB, allB, gval, wrapG, dstOK, setD, Op.operands, Call.operands, List.append_toArray, reduceIte, reduceCtorEq, Nat.reduceLT, Nat.reduceEqDiff, ne_eq, not_false_eq_true, true_and, and_self, implies_true, List.nil_append, List.cons_append, List.append_nil, tab24, hN, eL]
        refine brW_some (fun h => ?_) (fun h => ?_)
        · have hi' : i < L.length := by simpa using h
          have hw := wr_succ hi' (by rw [maxLen_eq]; omega)
          have g0 := getD_encTs hi'
          have hd := h3 i hi'
          obtain ⟨t, ht⟩ : ∃ t, tAt L i = t := ⟨_, rfl⟩
          rw [ht] at g0 hd
          simp only [delT, okT, Bool.and_eq_true, Bool.not_eq_true', decide_eq_false_iff_not] at hd
          obtain ⟨⟨hix, htp⟩, hno⟩ := hd
          obtain ⟨⟨a0, a1⟩, ⟨b0, b1⟩, ⟨c0, c1⟩⟩ := idx_facts hix
          obtain ⟨t1', t2', t3'⟩ := t
          simp only [] at a0 a1 b0 b1 c0 c1
          obtain ⟨x, rfl⟩ := nat_of a0
          obtain ⟨y, rfl⟩ := nat_of b0
          obtain ⟨z, rfl⟩ := nat_of c0
          have g1 := getD_encPs (l := P) (i := x) (by omega)
          have g2 := getD_encPs (l := P) (i := y) (by omega)
          have g3 := getD_encPs (l := P) (i := z) (by omega)
          obtain ⟨m, hm⟩ : ∃ m, c.length % P.length = m := ⟨_, rfl⟩
          have hml : m < P.length := by have := Nat.mod_lt c.length (show 0 < P.length by omega); omega
          have g4 := getD_encPs hml
          have t4 : (c.length : Int).tmod (P.length : Int) = (m : Int) := by rw [Int.tmod_eq_emod_of_nonneg (by omega), ← hm]; simp
          have hpt : ∀ j, j < P.length → okP (pAt P j) = true := fun j hj => by
            simp only [okPs, Bool.and_eq_true, List.all_eq_true] at hk
            exact hk.1 _ (by rw [pAt, List.getD, List.getElem?_eq_getElem hj]; exact List.getElem_mem hj)
          have o1 := hpt x (by omega)
          have o2 := hpt y (by omega)
          have o3 := hpt z (by omega)
          have o4 := hpt m hml
          have htp2 : 0 < turn (pAt P x) (pAt P y) (pAt P z) := Int.not_le.1 htp
          have htn : turn (pAt P x) (pAt P y) (pAt P z) ≠ 0 := by omega
          rw [List.any_eq_false] at hno
          have hno2 := hno (pAt P m) (by rw [pAt, List.getD, List.getElem?_eq_getElem hml]; exact List.getElem_mem hml)
          have hno3 : ¬ (0 < sgnI (inC (pAt P x) (pAt P y) (pAt P z) (pAt P m))) := fun hh => hno2 (decide_eq_true (p := 0 < sgnI (inC (pAt P x) (pAt P y) (pAt P z) (pAt P m))) hh)
          have hst : sgnI (turn (pAt P x) (pAt P y) (pAt P z)) = 1 := by unfold sgnI; split <;> (try split) <;> omega
          have hd9 : decide (0 < sgnI (inC (pAt P x) (pAt P y) (pAt P z) (pAt P m)) * sgnI (turn (pAt P x) (pAt P y) (pAt P z))) = false := by
            rw [hst, Int.mul_one]; exact decide_eq_false hno3
          have d6 : ((P.length : Int) == 0) = false := by rw [beq_eq_false_iff_ne]; omega
          simp only [V_seq, V_skip, V_block, V_region, V_draw, V_cond, brW_false, drawW, WS_nil, pairsOf, W_nil, W_cons, effOp2, effOp3, WI_nil, WI_cons, KN_seq, KN_block, KN_back, dynOK, indB, farB, freshB, freshK, freshK1, heapy, asB, effOp, effPure, effCall, giveUp, hasAll, pureV, binV, partV, eltV, loadV, faddrV, iaddrV, lenV, ofC, strip, lkT, lkH, ISt.app, opI, gO, gB, allB, gval, wrapG, dstOK, setD, mentTm, mentHp, IV.ment, lendV, lendP, lent, lentP, idsV, idsL, lkHS, flat, clean, callArgs, callFn, allLent, Op.operands, Call.operands, List.append_toArray, reduceIte, reduceCtorEq, cond_true, cond_false, Bool.or_false, Bool.and_true, Bool.and_eq_true, Bool.not_true, Bool.not_false, Nat.reduceAdd, Nat.reduceLT, Nat.reduceLeDiff, Nat.reduceEqDiff, Nat.reduceBEq, Nat.add_zero, Nat.zero_add, ne_eq, not_false_eq_true, true_and, and_true, and_false, and_self, implies_true, forall_const, List.map_cons, List.map_nil, List.nil_append, List.cons_append, List.append_nil, List.getD_cons_zero, List.getD_cons_succ, List.length_cons, List.length_nil, List.take_succ_cons, List.take_zero, List.take_nil, List.drop_succ_cons, List.drop_zero, ex_clo, or_self, tab3, tab22, tab23, tab24, tab30, tab32, hN, pe, Int.toNat_natCast, lk_laws_FnIsDelaunay_impl_InCircle, sp_impl_InCircle, eL, eP, ec, g0, g1, g2, g3, g4, t4, o1, o2, o3, o4, htn, hd9, hw, Int.toNat_natCast]
          exact ⟨⟨by omega, by omega⟩, ⟨by omega, by omega⟩, ⟨by omega, by omega⟩, ⟨by omega, by omega⟩, ⟨by omega, by omega⟩, ⟨by omega, by omega⟩, by omega, ⟨by omega, by omega⟩, i + 1, id, by simp only []; omega, by simp only []; omega, by simp [SLe, SLe0, convTm, convHp, conv, conv0, lkT, lkH, clean]⟩
        · have hie : i = L.length := by simp at h; omega
          subst hie
          simp only [V_seq, V_ret, V_exit, V_region, W_nil, W_cons, effOp2, KN_seq, KXr_nil, KXe_nil, KXe_seq, KXe_block, KXe_back, QE, effOp, effPure, effCall, giveUp, hasAll, pureV, sliceV, strip, lkT, lkH, ISt.app, opI, gO, gB, allB, gval, wrapG, dstOK, setD, lendV, lendP, lent, lentP, idsV, idsL, lkHS, flat, clean, callArgs, callFn, allLent, Gives, Ideal.Fin, conv, conv0, Op.operands, List.append_toArray, Array.append_empty, Option.toArray_none, Option.toArray_some, reduceIte, reduceCtorEq, cond_true, Bool.or_false, Bool.not_true, Nat.reduceLT, Nat.reduceEqDiff, ne_eq, not_false_eq_true, true_and, and_true, and_self, implies_true, forall_const, List.map_cons, List.map_nil, List.nil_append, List.cons_append, List.append_nil, Option.map_some, Option.map_none, ex_clo, or_self, tab24, tab32, hN, isPs_enc, toPs_enc, isTs_enc, toTs_enc, lk_laws_FnIsDelaunay_impl_IsDelaunay, sp_impl_IsDelaunay, eL, tk, etk, hT]
          exact ⟨by omega, by omega⟩
def sp_laws_FnIsDelaunay : PSpec := ⟨fun xs => match xs with | [.sl 1 bes, .sl 1 ces] => isBy bes ∧ isBy ces ∧ ((fun (b : List Int) (c : List Int) => ∀ x ∈ b, 0 ≤ x ∧ x < 256) (toIs bes) (toIs ces)) ∧ ((fun (b : List Int) (c : List Int) => ∀ x ∈ c, 0 ≤ x ∧ x < 256) (toIs bes) (toIs ces)) | _ => False, fun xs => match xs with | [.sl _ bes, .sl _ ces] => (fun (b : List Int) (c : List Int) => .bool true) (toIs bes) (toIs ces) | _ => .junk, false⟩
theorem gk_laws_FnIsDelaunay : ∀ args, sp_laws_FnIsDelaunay.pre args → ICall Try.prog 3 args (sp_laws_FnIsDelaunay.val args) := by
  intro args h
  unfold sp_laws_FnIsDelaunay at h ⊢; simp only at h ⊢; split at h
  · obtain ⟨h0, h1, h2, h3⟩ := h
    obtain ⟨l0, rfl⟩ := isBy_ex h0
    obtain ⟨l1, rfl⟩ := isBy_ex h1
    simp only [toBy_enc] at *
    exact c_laws_FnIsDelaunay _ _ h2 h3
  · exact h.elim
theorem en_laws_FnIsDelaunay : Enters Try.prog 3 := enters_of Try.func3 (by kernel_rfl) rfl

end Go.Proofs.Ytbbmeabfmjkldaa
