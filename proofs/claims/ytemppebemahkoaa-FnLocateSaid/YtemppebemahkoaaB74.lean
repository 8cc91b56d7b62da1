/- The law on where points lie: the walk. -/
import Derived.Test.YtemppebemahkoaaB69
import Derived.Test.YtemppebemahkoaaBPb
import Derived.Test.YtemppebemahkoaaBV
set_option linter.unusedVariables false
set_option linter.unusedSimpArgs false
set_option maxHeartbeats 16000000
set_option maxRecDepth 100000
namespace Go.Proofs.Ytemppebemahkoaa
open Go Go.Ideal Go.Pl Go.Sort

/-- The polygon that a code draws. -/
def drawPoly (b : List Int) : List Pt := (aPoly (b.take 2000) 0).1
theorem drawPoly_len {b : List Int} (hb : ∀ x ∈ b, 0 ≤ x ∧ x < 256) : (drawPoly b).length ≤ 100 := (aPoly_len (bytes_take hb) (Nat.zero_le 700000)).1
def qL (b : List Int) : Pt :=
  if 1 < (aPoly b 0).1.length ∧ pickI b (aPoly b 0).2 4 = 0 then (midW (pAt (aPoly b 0).1 0).1 (pAt (aPoly b 0).1 1).1, midW (pAt (aPoly b 0).1 0).2 (pAt (aPoly b 0).1 1).2)
  else if 1 < (aPoly b 0).1.length then (aPoint b ((aPoly b 0).2 + 1)).1 else (aPoint b (aPoly b 0).2).1
/-- The point that a code draws. -/
def drawLoc (b : List Int) : Pt := qL (b.take 2000)
def g_spec_DrawLocate : List (Nat × PSpec) := []
theorem gok_spec_DrawLocate : GOK Try.prog g_spec_DrawLocate := gok0
def h_spec_DrawLocate : List (Nat × HSpec) := [(65, hs_spec_newReader), (114, hs_spec_anyPolygon), (89, hs_spec_reader_pick), (115, hs_spec_anyPoint)]
theorem hok_spec_DrawLocate : HOK Try.prog h_spec_DrawLocate := hok_cons hk_spec_newReader en_spec_newReader (hok_cons hk_spec_anyPolygon en_spec_anyPolygon (hok_cons hk_spec_reader_pick en_spec_reader_pick (hok_cons hk_spec_anyPoint en_spec_anyPoint (hok0))))
theorem lh_spec_DrawLocate_spec_newReader : lkHS h_spec_DrawLocate 65 = some hs_spec_newReader := rfl
theorem lh_spec_DrawLocate_spec_anyPolygon : lkHS h_spec_DrawLocate 114 = some hs_spec_anyPolygon := rfl
theorem lh_spec_DrawLocate_spec_reader_pick : lkHS h_spec_DrawLocate 89 = some hs_spec_reader_pick := rfl
theorem lh_spec_DrawLocate_spec_anyPoint : lkHS h_spec_DrawLocate 115 = some hs_spec_anyPoint := rfl
theorem c_spec_DrawLocate (b : List Int) (hb : ∀ x ∈ b, 0 ≤ x ∧ x < 256) (hsz : b.length ≤ 1048576) : ICall Try.prog 46 [.sl 1 (encBy b)] (.tup [.sl 2 (encPs (drawPoly b)), encP (drawLoc b)]) := by
  refine icall_of_hcall (v := .tup [.sl 2 (encPs (drawPoly b)), encP (drawLoc b)]) (hp' := []) id ?_ (by simp [SLe0, convTm, convHp, conv, convL, conv0, lkT, clean, encP]) (by simp [idsV, idsL, encP])
  refine hcall_V (G := g_spec_DrawLocate) (H := h_spec_DrawLocate) [] tabOK mixed gok_spec_DrawLocate hok_spec_DrawLocate Try.func46 rfl Try.ntmps46 Try.results46 rfl (by kernel_rfl) fun F hN hlen => ?_
  have hbt := bytes_take hb
  have hd : (aPoly (b.take 2000) 0).1 = drawPoly b := rfl
  have hq : qL (b.take 2000) = drawLoc b := rfl
  obtain ⟨g1, g2⟩ := aPoly_len hbt (Nat.zero_le 700000)
  rw [qL] at hq
  rw [hd] at hq g1
  obtain ⟨l, hl⟩ : ∃ l, drawPoly b = l := ⟨_, rfl⟩
  obtain ⟨p, hp⟩ : ∃ p, (aPoly (b.take 2000) 0).2 = p := ⟨_, rfl⟩
  rw [hl] at hd g1 hq
  rw [hp] at hq g2
  have p1 : p ≤ 800000 := by omega
  have p2 : p ≤ 1000000 := by omega
  have p3 : p + 1 ≤ 800000 := by omega
  have el := len_encPs l
  have tn0 : Int.toNat 0 = 0 := rfl
  have tn1 : Int.toNat 1 = 1 := rfl
  by_cases c : 1 < l.length
  · have d1 : decide ((1 : Int) < (l.length : Int)) = true := decide_eq_true (by omega)
    have g3 := getD_encPs (l := l) (i := 0) (by omega)
    have g4 := getD_encPs (l := l) (i := 1) (by omega)
    by_cases c2 : pickI (b.take 2000) p 4 = 0
    · have d2 : (pickI (b.take 2000) p 4 == 0) = true := by simpa using c2
      rw [if_pos ⟨c, c2⟩] at hq
      simp only [midW] at hq
      simp only [V_seq, V_ret, V_region, V_draw, V_cond, brW_true, drawW, pairsOf, W_nil, W_cons, WD_nil, WD_cons, effOp2, effOp3, KN_seq, KXr_nil, KXr_seq, QE, asB, effOp, effPure, effPick, effNew, effAlloc, effStore, Option.isSome_some, skipE, pureV, pickV, storeV, binV, partV, eltV, loadV, faddrV, iaddrV, lenV, over, solid, buildL, IV.cells, ofC, strip, lkT, lkH, ISt.app, opI, gO, gB, allB, gval, wrapG, dstOK, setD, mentTm, mentHp, IV.ment, IV.mentL, oneI, lendV, lendP, lent, lentP, idsV, idsL, clean, callArgs, callFn, enumT, conv, conv0, convL, IBlk.shape, Op.operands, Call.operands, List.append_toArray, reduceIte, reduceCtorEq, cond_true, cond_false, Bool.or_false, Bool.or_true, Bool.and_true, Bool.not_false, Nat.reduceAdd, Nat.reduceSub, Nat.reduceMul, Nat.reduceLT, Nat.reduceLeDiff, Nat.reduceEqDiff, Nat.reduceBEq, Nat.add_zero, Nat.zero_add, ne_eq, not_false_eq_true, beq_self_eq_true, true_and, and_true, and_false, and_self, implies_true, forall_const, List.map_cons, List.map_nil, List.nil_append, List.cons_append, List.append_nil, List.all_cons, List.all_nil, Option.map_some, Option.map_none, Option.bind_some, List.getElem?_cons_zero, List.getElem?_cons_succ, List.getD_cons_zero, List.getD_cons_succ, List.length_cons, List.length_nil, List.take_succ_cons, List.take_zero, List.take_nil, List.drop_succ_cons, List.drop_zero, List.drop_nil, ex_clo, Bool.true_eq_false, Bool.false_eq_true, tab3, tab23, tab30, hN, Int.toNat_natCast, encP, isBy_enc, toBy_enc, FinH, resA, resL, resV, SLe, SLe0, convTm, convHp, convB, sm, effH, mkHC0, mkHC1, lendM, lentM, lentI, allHere, addIds, idsB, flatIds, reach, posn, renV, renL, renB, renH, numB, subHp, fwd, bk, bwd, nones, keyOK, noSl, noSlL, flatBs, List.contains, List.elem, Option.isSome_some, List.nodup_nil, List.nodup_cons, List.not_mem_nil, or_false, Option.getD_some, lh_spec_DrawLocate_spec_newReader, lh_spec_DrawLocate_spec_anyPolygon, lh_spec_DrawLocate_spec_reader_pick, hs_spec_newReader, hs_spec_anyPolygon, hs_spec_reader_pick, rdr, hsz, hbt, hl, hd, hp, p2, el, d1, d2, g3, g4, ← hq, tn0, tn1]
      exact ⟨by omega, ⟨by omega, by omega⟩, ⟨by omega, by omega⟩, by decide, ⟨by omega, by omega⟩, ⟨by omega, by omega⟩, by decide, id, fun _ _ _ => rfl⟩
    · have d2 : (pickI (b.take 2000) p 4 == 0) = false := by simpa using c2
      rw [if_neg (fun h => c2 h.2), if_pos c] at hq
      simp only [V_seq, V_skip, V_ret, V_region, V_cond, brW_false, W_nil, W_cons, effOp2, KN_seq, KXr_nil, QE, asB, effOp, effPure, effPick, effNew, effAlloc, effStore, Option.isSome_some, skipE, pureV, pickV, storeV, binV, partV, loadV, lenV, over, solid, IV.cells, ofC, strip, lkT, lkH, ISt.app, opI, gO, gB, allB, gval, wrapG, dstOK, setD, mentTm, mentHp, IV.ment, IV.mentL, oneI, lendV, lendP, lent, lentP, idsV, idsL, clean, callArgs, callFn, enumT, conv, conv0, convL, IBlk.shape, Op.operands, Call.operands, List.append_toArray, reduceIte, reduceCtorEq, cond_true, cond_false, Bool.or_false, Bool.or_true, Bool.and_true, Bool.not_false, Nat.reduceAdd, Nat.reduceSub, Nat.reduceMul, Nat.reduceLT, Nat.reduceLeDiff, Nat.reduceEqDiff, Nat.reduceBEq, Nat.add_zero, Nat.zero_add, ne_eq, not_false_eq_true, beq_self_eq_true, true_and, and_true, and_false, and_self, implies_true, List.map_cons, List.map_nil, List.nil_append, List.cons_append, List.append_nil, List.all_cons, List.all_nil, Option.map_some, Option.map_none, Option.bind_some, List.getElem?_cons_zero, List.getElem?_cons_succ, List.getD_cons_zero, List.length_cons, List.length_nil, List.take_succ_cons, List.take_zero, List.take_nil, List.drop_succ_cons, List.drop_zero, List.drop_nil, ex_clo, Bool.true_eq_false, Bool.false_eq_true, tab23, tab30, hN, Int.toNat_natCast, encP, isBy_enc, toBy_enc, FinH, resA, resL, resV, SLe, SLe0, convTm, convHp, convB, sm, effH, mkHC0, mkHC1, lendM, lentM, lentI, allHere, addIds, idsB, flatIds, reach, posn, renV, renL, renB, renH, numB, subHp, fwd, bk, bwd, nones, keyOK, noSl, noSlL, flatBs, List.contains, List.elem, Option.isSome_some, List.nodup_nil, List.nodup_cons, List.not_mem_nil, or_false, Option.getD_some, lh_spec_DrawLocate_spec_newReader, lh_spec_DrawLocate_spec_anyPolygon, lh_spec_DrawLocate_spec_reader_pick, lh_spec_DrawLocate_spec_anyPoint, hs_spec_newReader, hs_spec_anyPolygon, hs_spec_reader_pick, hs_spec_anyPoint, rdr, hsz, hbt, hl, hd, hp, p2, p3, el, d1, d2, ← hq]
      exact ⟨by omega, id, fun _ _ _ => rfl⟩
  · have d1 : decide ((1 : Int) < (l.length : Int)) = false := decide_eq_false (by omega)
    rw [if_neg (fun h => c h.1), if_neg c] at hq
    simp only [V_seq, V_skip, V_ret, V_region, V_cond, brW_false, W_nil, W_cons, effOp2, KN_seq, KXr_nil, QE, asB, effOp, effPure, effPick, effNew, effAlloc, effStore, Option.isSome_some, skipE, pureV, pickV, storeV, binV, partV, loadV, lenV, over, solid, IV.cells, ofC, strip, lkT, lkH, ISt.app, opI, gO, gB, allB, gval, wrapG, dstOK, setD, mentTm, mentHp, IV.ment, IV.mentL, oneI, lendV, lendP, lent, lentP, idsV, idsL, clean, callArgs, callFn, enumT, conv, conv0, convL, IBlk.shape, Op.operands, Call.operands, List.append_toArray, reduceIte, reduceCtorEq, cond_true, cond_false, Bool.or_false, Bool.or_true, Bool.and_true, Bool.not_false, Nat.reduceAdd, Nat.reduceSub, Nat.reduceMul, Nat.reduceLT, Nat.reduceLeDiff, Nat.reduceEqDiff, Nat.reduceBEq, Nat.add_zero, Nat.zero_add, ne_eq, not_false_eq_true, beq_self_eq_true, true_and, and_true, false_and, and_false, and_self, false_implies, implies_true, List.map_cons, List.map_nil, List.nil_append, List.cons_append, List.append_nil, List.all_cons, List.all_nil, Option.map_some, Option.map_none, Option.bind_some, List.getElem?_cons_zero, List.getElem?_cons_succ, List.getD_cons_zero, List.length_cons, List.length_nil, List.take_succ_cons, List.take_zero, List.take_nil, List.drop_succ_cons, List.drop_zero, List.drop_nil, ex_clo, bft, Bool.true_eq_false, Bool.false_eq_true, tab23, tab30, hN, Int.toNat_natCast, encP, isBy_enc, toBy_enc, FinH, resA, resL, resV, SLe, SLe0, convTm, convHp, convB, sm, effH, mkHC0, mkHC1, lendM, lentM, lentI, allHere, addIds, idsB, flatIds, reach, posn, renV, renL, renB, renH, numB, subHp, fwd, bk, bwd, nones, keyOK, noSl, noSlL, flatBs, List.contains, List.elem, Option.isSome_some, List.nodup_nil, List.nodup_cons, List.not_mem_nil, or_false, Option.getD_some, lh_spec_DrawLocate_spec_newReader, lh_spec_DrawLocate_spec_anyPolygon, lh_spec_DrawLocate_spec_reader_pick, lh_spec_DrawLocate_spec_anyPoint, hs_spec_newReader, hs_spec_anyPolygon, hs_spec_reader_pick, hs_spec_anyPoint, rdr, hsz, hbt, hl, hd, hp, p1, p2, el, d1, ← hq]
    exact ⟨id, fun _ _ _ => rfl⟩
def sp_spec_DrawLocate : PSpec := ⟨fun xs => match xs with | [.sl 1 bes] => isBy bes ∧ ((fun (b : List Int) => ∀ x ∈ b, 0 ≤ x ∧ x < 256) (toIs bes)) ∧ ((fun (b : List Int) => b.length ≤ 1048576) (toIs bes)) | _ => False, fun xs => match xs with | [.sl _ bes] => (fun (b : List Int) => .tup [.sl 2 (encPs (drawPoly b)), encP (drawLoc b)]) (toIs bes) | _ => .junk, false⟩
theorem gk_spec_DrawLocate : ∀ args, sp_spec_DrawLocate.pre args → ICall Try.prog 46 args (sp_spec_DrawLocate.val args) := by
  intro args h
  unfold sp_spec_DrawLocate at h ⊢; simp only at h ⊢; split at h
  · obtain ⟨h0, h1, h2⟩ := h
    obtain ⟨l0, rfl⟩ := isBy_ex h0
    simp only [toBy_enc] at *
    exact c_spec_DrawLocate _ h1 h2
  · exact h.elim
theorem en_spec_DrawLocate : Enters Try.prog 46 := enters_of Try.func46 (by kernel_rfl) rfl

def g_impl_OnSegment : List (Nat × PSpec) := [(122, sp_impl_Segment_valid), (117, sp_impl_Point_valid), (123, sp_impl_Segment_has)]
theorem gok_impl_OnSegment : GOK Try.prog g_impl_OnSegment := gok_cons gk_impl_Segment_valid en_impl_Segment_valid (gok_cons gk_impl_Point_valid en_impl_Point_valid (gok_cons gk_impl_Segment_has en_impl_Segment_has (gok0)))
theorem lk_impl_OnSegment_impl_Segment_valid : lkG g_impl_OnSegment 122 = sp_impl_Segment_valid := rfl
theorem lk_impl_OnSegment_impl_Point_valid : lkG g_impl_OnSegment 117 = sp_impl_Point_valid := rfl
theorem lk_impl_OnSegment_impl_Segment_has : lkG g_impl_OnSegment 123 = sp_impl_Segment_has := rfl
def h_impl_OnSegment : List (Nat × HSpec) := []
theorem hok_impl_OnSegment : HOK Try.prog h_impl_OnSegment := hok0
theorem c_impl_OnSegment (s : Qd) (q : Pt)  : ICall Try.prog 49 [encQ s, encP q] (.bool (vSg s && (okP q && onS s q))) := by
  refine icall_V (G := g_impl_OnSegment) (H := []) [] tabOK mixed gok_impl_OnSegment hok_impl_OnSegment Try.func49 rfl Try.ntmps49 Try.results49 rfl (by kernel_rfl) fun F hN hlen => ?_
  have hv : (vSg s && (okP q && onS s q)) = (vSg s && (okP q && onS s q)) := rfl
  cases h1 : vSg s with
  | false =>
    simp only [V_seq, V_ret, V_region, W_nil, W_cons, effOp2, KN_seq, KXr_nil, QE, effOp, effPure, effPick, effNew, effBox, effCall, giveUp, hasAll, skipE, pureV, pickV, partV, loadV, solid, IV.cells, ofC, strip, lkT, lkH, ISt.app, opI, gO, gB, allB, gval, wrapG, dstOK, setD, mentTm, mentHp, IV.ment, IV.mentL, oneI, lendV, lendP, lent, lentP, idsV, idsL, lkHS, flat, clean, callArgs, callFn, allLent, enumT, Gives, Ideal.Fin, conv, conv0, Op.operands, reduceIte, reduceCtorEq, cond_true, cond_false, Bool.or_false, Bool.or_true, Bool.and_true, Bool.false_and, Bool.not_true, Bool.not_false, Nat.reduceAdd, Nat.reduceLT, Nat.reduceLeDiff, Nat.reduceEqDiff, Nat.reduceBEq, Nat.zero_add, true_and, and_true, false_and, and_false, and_self, false_implies, implies_true, List.map_cons, List.map_nil, List.nil_append, List.cons_append, List.append_nil, List.all_cons, List.all_nil, Option.bind_some, List.getElem?_cons_zero, List.getElem?_cons_succ, List.getD_cons_zero, List.length_cons, List.length_nil, List.take_succ_cons, List.take_nil, List.drop_zero, ex_clo, bft, or_self, Bool.false_eq_true, tab30, tab68, hN, pe, encP, encQ, lk_impl_OnSegment_impl_Segment_valid, lk_impl_OnSegment_impl_Point_valid, lk_impl_OnSegment_impl_Segment_has, sp_impl_Segment_valid, sp_impl_Point_valid, sp_impl_Segment_has, h1]
  | true =>
    cases h2 : okP q with
    | false =>
      simp only [V_seq, V_ret, V_region, W_nil, W_cons, effOp2, KN_seq, KXr_nil, QE, effOp, effPure, effPick, effNew, effBox, effCall, giveUp, hasAll, skipE, pureV, pickV, partV, loadV, solid, IV.cells, ofC, strip, lkT, lkH, ISt.app, opI, gO, gB, allB, gval, wrapG, dstOK, setD, mentTm, mentHp, IV.ment, IV.mentL, oneI, lendV, lendP, lent, lentP, idsV, idsL, lkHS, flat, clean, callArgs, callFn, allLent, enumT, Gives, Ideal.Fin, conv, conv0, Op.operands, reduceIte, reduceCtorEq, cond_true, cond_false, Bool.or_false, Bool.or_true, Bool.and_true, Bool.and_false, Bool.false_and, Bool.not_true, Bool.not_false, Nat.reduceAdd, Nat.reduceLT, Nat.reduceLeDiff, Nat.reduceEqDiff, Nat.reduceBEq, Nat.zero_add, beq_self_eq_true, true_and, and_true, false_and, and_false, and_self, false_implies, implies_true, List.map_cons, List.map_nil, List.nil_append, List.cons_append, List.append_nil, List.all_cons, List.all_nil, Option.bind_some, List.getElem?_cons_zero, List.getElem?_cons_succ, List.getD_cons_zero, List.length_cons, List.length_nil, List.take_succ_cons, List.take_nil, List.drop_zero, ex_clo, bft, or_self, Bool.true_eq_false, Bool.false_eq_true, tab30, tab68, hN, pe, encP, encQ, lk_impl_OnSegment_impl_Segment_valid, lk_impl_OnSegment_impl_Point_valid, lk_impl_OnSegment_impl_Segment_has, sp_impl_Segment_valid, sp_impl_Point_valid, sp_impl_Segment_has, h1, h2]
    | true =>
      have s1 := (vSg_facts h1).1
      have s2 := okP_sm h2
      simp only [V_seq, V_ret, V_region, W_nil, W_cons, effOp2, KN_seq, KXr_nil, QE, effOp, effPure, effPick, effNew, effBox, effCall, giveUp, hasAll, skipE, pureV, pickV, partV, loadV, solid, IV.cells, ofC, strip, lkT, lkH, ISt.app, opI, gO, gB, allB, gval, wrapG, dstOK, setD, mentTm, mentHp, IV.ment, IV.mentL, oneI, lendV, lendP, lent, lentP, idsV, idsL, lkHS, flat, clean, callArgs, callFn, allLent, enumT, Gives, Ideal.Fin, conv, conv0, Op.operands, reduceIte, reduceCtorEq, cond_true, Bool.or_false, Bool.and_true, Bool.true_and, Bool.not_true, Nat.reduceAdd, Nat.reduceLT, Nat.reduceLeDiff, Nat.reduceEqDiff, Nat.reduceBEq, Nat.zero_add, beq_self_eq_true, and_false, and_self, implies_true, List.map_cons, List.map_nil, List.nil_append, List.cons_append, List.append_nil, List.all_cons, List.all_nil, Option.bind_some, List.getElem?_cons_zero, List.getElem?_cons_succ, List.getD_cons_zero, List.length_cons, List.length_nil, List.take_succ_cons, List.take_nil, List.drop_zero, ex_clo, or_self, Bool.true_eq_false, tab30, tab68, hN, pe, encP, encQ, lk_impl_OnSegment_impl_Segment_valid, lk_impl_OnSegment_impl_Point_valid, lk_impl_OnSegment_impl_Segment_has, sp_impl_Segment_valid, sp_impl_Point_valid, sp_impl_Segment_has, h1, h2, s1, s2]
def sp_impl_OnSegment : PSpec := ⟨fun xs => match xs with | [.agg [.num .i64 s1, .num .i64 s2, .num .i64 s3, .num .i64 s4], .agg [.num .i64 q1, .num .i64 q2]] => True | _ => False, fun xs => match xs with | [.agg [.num _ s1, .num _ s2, .num _ s3, .num _ s4], .agg [.num _ q1, .num _ q2]] => (fun (s : Qd) (q : Pt) => .bool (vSg s && (okP q && onS s q))) ((s1, s2), (s3, s4)) (q1, q2) | _ => .junk, false⟩
theorem gk_impl_OnSegment : ∀ args, sp_impl_OnSegment.pre args → ICall Try.prog 49 args (sp_impl_OnSegment.val args) := by
  intro args h
  unfold sp_impl_OnSegment at h ⊢; simp only at h ⊢; split at h
  · exact c_impl_OnSegment ((_, _), (_, _)) (_, _)
  · exact h.elim
theorem en_impl_OnSegment : Enters Try.prog 49 := enters_of Try.func49 (by kernel_rfl) rfl

/-- The greatest first coordinate of the first points, from the first one on. -/
def mxN (l : List Pt) : Nat → Int
  | 0 => (pAt l 0).1
  | i + 1 => max (mxN l i) (pAt l i).1
theorem mx_le (l : List Pt) : ∀ n i, i < n → (pAt l i).1 ≤ mxN l n
  | n + 1, i, h => by
    rw [mxN]
    rcases Nat.lt_or_ge i n with c | c
    · have := mx_le l n i c; omega
    · rw [show i = n by omega]; omega
theorem mx_bd {l : List Pt} {A B : Int} (h : ∀ i, i < l.length → A ≤ (pAt l i).1 ∧ (pAt l i).1 ≤ B) (h0 : 0 < l.length) : ∀ n, n ≤ l.length → A ≤ mxN l n ∧ mxN l n ≤ B
  | 0, _ => h 0 h0
  | n + 1, hn => by
    have h1 := mx_bd h h0 n (by omega)
    have h2 := h n (by omega)
    rw [mxN]; omega
def g_laws_FnLocate : List (Nat × PSpec) := [(46, sp_spec_DrawLocate), (47, sp_impl_Locate), (48, sp_spec_Locate), (49, sp_impl_OnSegment), (50, sp_laws_backwards)]
theorem gok_laws_FnLocate : GOK Try.prog g_laws_FnLocate := gok_cons gk_spec_DrawLocate en_spec_DrawLocate (gok_cons gk_impl_Locate en_impl_Locate (gok_cons gk_spec_Locate en_spec_Locate (gok_cons gk_impl_OnSegment en_impl_OnSegment (gok_cons gk_laws_backwards en_laws_backwards (gok0)))))
theorem lk_laws_FnLocate_spec_DrawLocate : lkG g_laws_FnLocate 46 = sp_spec_DrawLocate := rfl
theorem lk_laws_FnLocate_impl_Locate : lkG g_laws_FnLocate 47 = sp_impl_Locate := rfl
theorem lk_laws_FnLocate_spec_Locate : lkG g_laws_FnLocate 48 = sp_spec_Locate := rfl
theorem lk_laws_FnLocate_impl_OnSegment : lkG g_laws_FnLocate 49 = sp_impl_OnSegment := rfl
theorem lk_laws_FnLocate_laws_backwards : lkG g_laws_FnLocate 50 = sp_laws_backwards := rfl
def h_laws_FnLocate : List (Nat × HSpec) := []
theorem hok_laws_FnLocate : HOK Try.prog h_laws_FnLocate := hok0
theorem c_laws_FnLocate (b : List Int) (hb : ∀ x ∈ b, 0 ≤ x ∧ x < 256) : ICall Try.prog 10 [.sl 1 (encBy b)] (.bool true) := by
  refine icall_V (G := g_laws_FnLocate) (H := []) [(12, [(0, 16), (2, 16), (3, 16), (4, 16), (5, 16), (6, 16), (7, 16), (8, 16), (9, 16), (10, 16), (11, 16), (12, 16), (13, 16)]), (16, [(0, 14), (1, 14), (2, 14), (3, 14), (4, 14), (5, 14), (6, 14), (9, 14), (10, 14), (11, 14), (12, 14), (14, 16), (14, 17), (14, 19), (0, 20), (1, 20), (2, 20), (3, 20), (4, 20), (5, 20), (6, 20), (7, 20), (8, 20), (9, 20), (10, 20), (11, 20), (12, 20), (13, 20), (14, 20), (15, 20), (16, 20), (17, 20), (14, 21), (20, 21), (0, 22), (1, 22), (2, 22), (3, 22), (4, 22), (5, 22), (6, 22), (7, 22), (8, 22), (9, 22), (10, 22), (11, 22), (12, 22), (13, 22), (14, 22), (15, 22), (16, 22), (17, 22), (19, 22), (14, 23), (20, 23), (22, 23), (14, 24), (20, 24), (14, 25), (20, 25), (22, 25)])] tabOK mixed gok_laws_FnLocate hok_laws_FnLocate Try.func10 rfl Try.ntmps10 Try.results10 rfl (by kernel_rfl) fun F hN hlen => ?_
  have el := len_encBy b
  have bb : ∀ x : Int, (x != x) = false := fun x => by simp
  have bb2 : ∀ x : Int, (x == x) = true := fun x => by simp
  cases d1 : decide (1048576 < (b.length : Int)) with
  | true => simp only [V_seq, V_ret, V_region, V_cond, brW_true, W_nil, W_cons, effOp2, KN_seq, KXr_nil, KXr_seq, QE, asB, effOp, effPure, pureV, binV, lenV, ofC, strip, lkT, lkH, ISt.app, opI, gO, gB, allB, gval, wrapG, dstOK, setD, clean, enumT, Gives, Ideal.Fin, conv, conv0, Op.operands, Call.operands, List.append_toArray, reduceIte, reduceCtorEq, Nat.reduceLT, Nat.reduceEqDiff, ne_eq, not_false_eq_true, and_self, implies_true, List.nil_append, List.cons_append, List.append_nil, tab22, hN, el, d1]
  | false =>
    have hsz : b.length ≤ 1048576 := by simp at d1; omega
    have hl := drawPoly_len hb
    obtain ⟨l, hl0⟩ : ∃ l, drawPoly b = l := ⟨_, rfl⟩
    obtain ⟨q, hq0⟩ : ∃ q, drawLoc b = q := ⟨_, rfl⟩
    rw [hl0] at hl
    have e1 := len_encPs l
    cases h1 : simpB l && okP q with
    | false =>
      have hv : locB l q = 2 := by rw [locB, h1]; rfl
      have d2 : ((2 : Int) == 2) = true := rfl
      simp only [V_seq, V_skip, V_ret, V_region, V_cond, brW_true, brW_false, W_nil, W_cons, effOp2, KN_seq, KXr_nil, KXr_seq, QE, asB, effOp, effPure, effPick, effNew, effAlloc, effStore, effCall, giveUp, hasAll, skipE, pureV, pickV, storeV, binV, partV, loadV, lenV, over, solid, IV.cells, ofC, strip, lkT, lkH, ISt.app, opI, gO, gB, allB, gval, wrapG, dstOK, setD, mentTm, mentHp, IV.ment, IV.mentL, oneI, lendV, lendP, lent, lentP, idsV, idsL, lkHS, flat, flatL, clean, cleanL, callArgs, callFn, allLent, enumT, Gives, Ideal.Fin, conv, conv0, Op.operands, Call.operands, List.append_toArray, reduceIte, reduceCtorEq, cond_true, cond_false, Bool.or_false, Bool.and_true, Bool.not_true, Nat.reduceAdd, Nat.reduceLT, Nat.reduceLeDiff, Nat.reduceEqDiff, Nat.zero_add, ne_eq, not_false_eq_true, beq_self_eq_true, true_and, and_true, and_false, and_self, implies_true, forall_const, List.map_cons, List.map_nil, List.nil_append, List.cons_append, List.append_nil, List.all_cons, List.all_nil, Option.bind_some, List.getElem?_cons_zero, List.getElem?_cons_succ, List.getD_cons_zero, List.getD_cons_succ, List.length_cons, List.length_nil, List.take_succ_cons, List.take_zero, List.take_nil, List.drop_succ_cons, List.drop_zero, List.drop_nil, ex_clo, or_true, or_self, Bool.false_eq_true, tab22, tab30, hN, pe, encP, isPs_enc, toPs_enc, isBy_enc, toBy_enc, lk_laws_FnLocate_spec_DrawLocate, lk_laws_FnLocate_impl_Locate, lk_laws_FnLocate_spec_Locate, sp_spec_DrawLocate, sp_impl_Locate, sp_spec_Locate, el, d1, hsz, hl0, hq0, hv, bb]
      exact hb
    | true =>
      obtain ⟨hs, hq⟩ : simpB l = true ∧ okP q = true := by simpa [Bool.and_eq_true] using h1
      obtain ⟨f1, f2, f3, f4⟩ := ring_facts (simp_ring hs)
      have hall := onN_all hs hq
      have hne : (locB l q == 2) = false := by
        rw [locB, h1, locR_eq]
        simp only [cond_true, beq_eq_false_iff_ne]
        split
        · decide
        · split <;> decide
      have hrev := locB_rev l q
      obtain ⟨n, hn⟩ : ∃ n, locB l q = n := ⟨_, rfl⟩
      rw [hn] at hall hne hrev
      have g0 := getD_encPs (l := l) (i := 0) (by omega)
      have tn0 : Int.toNat 0 = 0 := rfl
      simp only [V_seq, V_skip, V_block, V_region, V_cond, brW_false, W_nil, W_cons, effOp2, KN_seq, asB, effOp, effPure, effPick, effNew, effAlloc, effStore, effCall, giveUp, hasAll, skipE, pureV, pickV, storeV, binV, partV, eltV, loadV, faddrV, iaddrV, lenV, over, solid, IV.cells, ofC, strip, lkT, lkH, ISt.app, opI, gO, gB, allB, gval, wrapG, dstOK, setD, mentTm, mentHp, IV.ment, IV.mentL, oneI, lendV, lendP, lent, lentP, idsV, idsL, lkHS, flat, flatL, clean, cleanL, callArgs, callFn, allLent, enumT, Op.operands, Call.operands, List.append_toArray, reduceIte, reduceCtorEq, cond_true, cond_false, Bool.or_false, Bool.and_true, Bool.not_true, Nat.reduceAdd, Nat.reduceLT, Nat.reduceLeDiff, Nat.reduceEqDiff, Nat.add_zero, Nat.zero_add, ne_eq, not_false_eq_true, beq_self_eq_true, true_and, and_true, and_false, and_self, implies_true, forall_const, List.map_cons, List.map_nil, List.nil_append, List.cons_append, List.append_nil, List.all_cons, List.all_nil, Option.bind_some, List.getElem?_cons_zero, List.getElem?_cons_succ, List.getD_cons_zero, List.getD_cons_succ, List.length_cons, List.length_nil, List.take_succ_cons, List.take_zero, List.take_nil, List.drop_succ_cons, List.drop_zero, List.drop_nil, ex_clo, or_true, or_self, Bool.false_eq_true, tab3, tab22, tab23, tab30, hN, pe, encP, isPs_enc, toPs_enc, isBy_enc, toBy_enc, lk_laws_FnLocate_spec_DrawLocate, lk_laws_FnLocate_impl_Locate, lk_laws_FnLocate_spec_Locate, sp_spec_DrawLocate, sp_impl_Locate, sp_spec_Locate, el, d1, hsz, hl0, hq0, e1, hn, hne, bb, g0, tn0]
      refine ⟨hb, ⟨by omega, by omega⟩, ?_⟩
      have hco : ∀ i, i < l.length → okP (pAt l i) = true := fun i hi => by
        simp only [okPs, Bool.and_eq_true, List.all_eq_true] at f1
        exact f1.1 _ (by rw [pAt, List.getD, List.getElem?_eq_getElem hi]; exact List.getElem_mem hi)
      have hbd : ∀ i, i < l.length → -1000 ≤ (pAt l i).1 ∧ (pAt l i).1 ≤ 1000 := fun i hi => by
        have := hco i hi
        simp only [okP, inR, Bool.and_eq_true, decide_eq_true_eq] at this
        omega
      have hz : l.length ≤ 1000000 := by omega
      refine V_loop (α := Nat) ⟨tabOK, mixed, gok_laws_FnLocate, hok_laws_FnLocate⟩ (by kernel_rfl) (fun i => i ≤ l.length) (fun i => ⟨[(8, .num .i64 i), (7, .num .i64 (mxN l i)), (6, .bool (onN l q i)), (5, .num .i64 n), (4, .ptr 4 0), (3, .sl 2 (encPs l))], [(4, some (.box 30 [.num .i64 q.1, .num .i64 q.2]))]⟩) (fun i => l.length - i) 0 id (Nat.zero_le _)
        (by simp [SLe, SLe0, convTm, convHp, convB, conv, conv0, convL, lkT, lkH, clean, mxN, onN]) ?_
      intro i hi
      simp only [V_seq, V_region, V_cond, W_nil, W_cons, effOp2, KN_seq, asB, effOp, effPure, pureV, binV, lenV, strip, lkT, ISt.app, opI, gO, gB, allB, gval, wrapG, dstOK, setD, Op.operands, Call.operands, List.append_toArray, reduceIte, reduceCtorEq, Nat.reduceLT, Nat.reduceEqDiff, ne_eq, not_false_eq_true, true_and, and_self, implies_true, List.nil_append, List.cons_append, tab23, hN, e1]
      refine brW_some (fun h => ?_) (fun h => ?_)
      · have hi' : i < l.length := by simpa using h
        have hw := wr_succ hi' (by rw [maxLen_eq]; omega)
        have hj : (i + 1) % l.length < l.length := Nat.mod_lt _ (by omega)
        have t1 : ((i + 1 : Nat) : Int).tmod (l.length : Int) = (((i + 1) % l.length : Nat) : Int) := by rw [Int.tmod_eq_emod_of_nonneg (by omega)]; simp
        have tk : Int.toNat (((i + 1) % l.length : Nat) : Int) = (i + 1) % l.length := Int.toNat_natCast _
        have g1 := getD_encPs hi'
        have g2 := getD_encPs hj
        have hown := loc_own hs hi'
        have hsu := onN_succ (q := q) hi'
        have hmx : max (mxN l i) (pAt l i).1 = mxN l (i + 1) := rfl
        have hne2 := ed_ne f4 (by omega) hi'
        have hed : edP l i = (pAt l i, pAt l ((i + 1) % l.length)) := rfl
        rw [hed] at hsu hne2
        have hvs : vSg (pAt l i, pAt l ((i + 1) % l.length)) = true := by
          simp only [vSg, Bool.and_eq_true, bne_iff_ne, ne_eq]
          exact ⟨hco i hi', hco _ hj, hne2⟩
        have d5 : ((l.length : Int) == 0) = false := by rw [beq_eq_false_iff_ne]; omega
        have d6 : ((0 : Int) != 0) = false := rfl
        cases hon : onN l q i with
        | true =>
          rw [hon, Bool.true_or] at hsu
          simp only [V_seq, V_skip, V_block, V_region, V_draw, V_cond, brW_false, drawW, WS_nil, pairsOf, W_nil, W_cons, effOp2, effOp3, WI_nil, WI_cons, KN_seq, KN_block, KN_back, dynOK, indB, farB, freshB, freshK, freshK1, heapy, asB, effOp, effPure, effPick, effCall, giveUp, hasAll, pureV, pickV, binV, partV, eltV, loadV, faddrV, iaddrV, lenV, over, solid, buildL, IV.cells, ofC, strip, lkT, lkH, ISt.app, opI, gO, gB, allB, gval, wrapG, dstOK, setD, mentTm, mentHp, IV.ment, IV.mentL, lendV, lendP, lent, lentP, idsV, idsL, lkHS, flat, clean, callArgs, callFn, allLent, Op.operands, Call.operands, List.append_toArray, reduceIte, reduceCtorEq, cond_true, cond_false, Bool.or_false, Bool.or_true, Bool.and_true, Bool.true_and, Bool.and_eq_true, Bool.not_true, Bool.not_false, Nat.reduceAdd, Nat.reduceLT, Nat.reduceLeDiff, Nat.reduceEqDiff, Nat.reduceBEq, Nat.add_zero, Nat.zero_add, ne_eq, not_false_eq_true, true_and, and_true, false_and, and_false, and_self, false_implies, implies_true, forall_const, List.map_cons, List.map_nil, List.nil_append, List.cons_append, List.append_nil, Option.bind_some, List.getElem?_cons_zero, List.getElem?_cons_succ, List.getD_cons_zero, List.getD_cons_succ, List.length_cons, List.length_nil, List.take_succ_cons, List.take_zero, List.take_nil, List.drop_succ_cons, List.drop_zero, List.drop_nil, ex_clo, btf, or_self, Bool.true_eq_false, Bool.false_eq_true, tab3, tab23, tab30, tab68, hN, pe, Int.toNat_natCast, isPs_enc, toPs_enc, lk_laws_FnLocate_impl_Locate, lk_laws_FnLocate_impl_OnSegment, sp_impl_Locate, sp_impl_OnSegment, e1, hw, t1, tk, g1, g2, hown, hmx, hvs, hq, d6, Int.toNat_natCast]
          refine ⟨⟨by omega, by omega⟩, ⟨by omega, by omega⟩, i + 1, id, by simp only []; omega, by simp only []; omega, ?_⟩
          simp only [hsu]
          exact by simp [SLe, SLe0, convTm, convHp, convB, conv, conv0, convL, lkT, lkH, clean]
        | false =>
          rw [hon, Bool.false_or] at hsu
          simp only [V_seq, V_skip, V_block, V_region, V_draw, V_cond, brW_false, drawW, WS_nil, pairsOf, W_nil, W_cons, effOp2, effOp3, WI_nil, WI_cons, KN_seq, KN_block, KN_back, dynOK, indB, farB, freshB, freshK, freshK1, heapy, asB, effOp, effPure, effPick, effCall, giveUp, hasAll, pureV, pickV, binV, partV, eltV, loadV, faddrV, iaddrV, lenV, over, solid, buildL, IV.cells, ofC, strip, lkT, lkH, ISt.app, opI, gO, gB, allB, gval, wrapG, dstOK, setD, mentTm, mentHp, IV.ment, IV.mentL, lendV, lendP, lent, lentP, idsV, idsL, lkHS, flat, clean, callArgs, callFn, allLent, Op.operands, Call.operands, List.append_toArray, reduceIte, reduceCtorEq, cond_true, cond_false, Bool.or_false, Bool.and_true, Bool.true_and, Bool.and_eq_true, Bool.not_true, Bool.not_false, Nat.reduceAdd, Nat.reduceLT, Nat.reduceLeDiff, Nat.reduceEqDiff, Nat.reduceBEq, Nat.add_zero, Nat.zero_add, ne_eq, not_false_eq_true, beq_self_eq_true, true_and, and_true, and_false, and_self, implies_true, forall_const, List.map_cons, List.map_nil, List.nil_append, List.cons_append, List.append_nil, Option.bind_some, List.getElem?_cons_zero, List.getElem?_cons_succ, List.getD_cons_zero, List.getD_cons_succ, List.length_cons, List.length_nil, List.take_succ_cons, List.take_zero, List.take_nil, List.drop_succ_cons, List.drop_zero, List.drop_nil, ex_clo, or_self, Bool.false_eq_true, tab3, tab23, tab30, tab68, hN, pe, Int.toNat_natCast, isPs_enc, toPs_enc, lk_laws_FnLocate_impl_Locate, lk_laws_FnLocate_impl_OnSegment, sp_impl_Locate, sp_impl_OnSegment, e1, hw, t1, tk, g1, g2, hown, hmx, hvs, hq, d6, Int.toNat_natCast]
          refine ⟨⟨by omega, by omega⟩, by omega, ⟨by omega, by omega⟩, ⟨by omega, by omega⟩, ⟨by omega, by omega⟩, i + 1, id, by simp only []; omega, by simp only []; omega, ?_⟩
          simp only [hsu]
          exact by simp [SLe, SLe0, convTm, convHp, convB, conv, conv0, convL, lkT, lkH, clean]
      · have hie : i = l.length := by simp at h; omega
        subst hie
        have hM := mx_bd hbd (by omega) l.length (Nat.le_refl _)
        have hle := mx_le l l.length
        obtain ⟨H, hH⟩ : ∃ H, mxN l l.length = H := ⟨_, rfl⟩
        rw [hH] at hM hle ⊢
        rw [hall]
        have bbb : ∀ x : Bool, (x == x) = true := fun x => by simp
        by_cases c : H = 1000
        · have d7 : (H == 1000) = true := by simpa using c
          simp only [V_seq, V_ret, V_exit, V_draw, drawW, WS_nil, pairsOf, W_nil, W_cons, effOp2, effOp3, WI_nil, WI_cons, KN_seq, KXr_nil, KXe_nil, KXe_seq, KXe_block, KXe_back, QE, dynOK, indB, farB, freshB, freshK, freshK1, heapy, effOp, effPure, effPick, effCall, giveUp, hasAll, pureV, pickV, binV, partV, loadV, faddrV, over, solid, buildL, IV.cells, ofC, strip, lkT, lkH, ISt.app, opI, gO, gB, allB, gval, wrapG, dstOK, setD, mentTm, mentHp, IV.ment, IV.mentL, lendV, lendP, lent, lentP, idsV, idsL, lkHS, flat, clean, callArgs, callFn, allLent, Gives, Ideal.Fin, conv, conv0, IBlk.shape, Op.operands, Call.operands, List.append_toArray, reduceIte, reduceCtorEq, cond_true, cond_false, Bool.or_false, Bool.or_true, Bool.and_true, Bool.and_false, Bool.and_eq_true, Bool.not_true, Bool.not_false, Nat.reduceAdd, Nat.reduceLT, Nat.reduceLeDiff, Nat.reduceEqDiff, Nat.reduceBEq, Nat.zero_add, ne_eq, not_false_eq_true, beq_self_eq_true, and_true, and_false, and_self, false_implies, implies_true, List.map_cons, List.map_nil, List.nil_append, List.cons_append, List.append_nil, Option.map_some, Option.bind_some, List.getElem?_cons_zero, List.getElem?_cons_succ, List.getD_cons_zero, List.getD_cons_succ, List.length_cons, List.length_nil, List.take_succ_cons, List.take_zero, List.take_nil, List.drop_succ_cons, List.drop_zero, List.drop_nil, ex_clo, btf, or_true, or_self, Bool.true_eq_false, Bool.false_eq_true, tab3, tab4, tab30, hN, pe, isPs_enc, toPs_enc, lk_laws_FnLocate_impl_Locate, lk_laws_FnLocate_laws_backwards, sp_impl_Locate, sp_laws_backwards, d7, hz, hrev]
        · have d7 : (H == 1000) = false := by simpa using c
          have w7 : IntKind.i64.wrap (H + 1) = H + 1 := wr (by omega) (by omega)
          have hout : locB l (H + 1, q.2) = -1 := by
            refine loc_out hs ?_ (fun i hi => ?_)
            · simp only [okP, inR, Bool.and_eq_true, decide_eq_true_eq] at hq ⊢
              omega
            · have := hle i hi
              show (pAt l i).1 < H + 1
              omega
          have d8 : ((-1 : Int) == -1) = true := rfl
          simp only [V_seq, V_ret, V_exit, V_draw, drawW, WS_nil, pairsOf, W_nil, W_cons, effOp2, effOp3, WI_nil, WI_cons, KN_seq, KXr_nil, KXe_nil, KXe_seq, KXe_block, KXe_back, QE, dynOK, indB, farB, freshB, freshK, freshK1, heapy, effOp, effPure, effPick, effCall, giveUp, hasAll, pureV, pickV, binV, partV, loadV, faddrV, over, solid, buildL, IV.cells, ofC, strip, lkT, lkH, ISt.app, opI, gO, gB, allB, gval, wrapG, dstOK, setD, mentTm, mentHp, IV.ment, IV.mentL, lendV, lendP, lent, lentP, idsV, idsL, lkHS, flat, clean, callArgs, callFn, allLent, Gives, Ideal.Fin, conv, conv0, IBlk.shape, Op.operands, Call.operands, List.append_toArray, reduceIte, reduceCtorEq, cond_true, cond_false, Bool.or_false, Bool.and_true, Bool.and_eq_true, Bool.not_true, Bool.not_false, Nat.reduceAdd, Nat.reduceLT, Nat.reduceLeDiff, Nat.reduceEqDiff, Nat.reduceBEq, Nat.zero_add, ne_eq, not_false_eq_true, beq_self_eq_true, and_true, and_false, and_self, implies_true, List.map_cons, List.map_nil, List.nil_append, List.cons_append, List.append_nil, Option.map_some, Option.bind_some, List.getElem?_cons_zero, List.getElem?_cons_succ, List.getD_cons_zero, List.getD_cons_succ, List.length_cons, List.length_nil, List.take_succ_cons, List.take_zero, List.take_nil, List.drop_succ_cons, List.drop_zero, List.drop_nil, ex_clo, or_true, or_self, Bool.true_eq_false, Bool.false_eq_true, tab3, tab4, tab30, hN, pe, isPs_enc, toPs_enc, lk_laws_FnLocate_impl_Locate, lk_laws_FnLocate_laws_backwards, sp_impl_Locate, sp_laws_backwards, d7, w7, hz, hrev, hout]
def sp_laws_FnLocate : PSpec := ⟨fun xs => match xs with | [.sl 1 bes] => isBy bes ∧ ((fun (b : List Int) => ∀ x ∈ b, 0 ≤ x ∧ x < 256) (toIs bes)) | _ => False, fun xs => match xs with | [.sl _ bes] => (fun (b : List Int) => .bool true) (toIs bes) | _ => .junk, false⟩
theorem gk_laws_FnLocate : ∀ args, sp_laws_FnLocate.pre args → ICall Try.prog 10 args (sp_laws_FnLocate.val args) := by
  intro args h
  unfold sp_laws_FnLocate at h ⊢; simp only at h ⊢; split at h
  · obtain ⟨h0, h1⟩ := h
    obtain ⟨l0, rfl⟩ := isBy_ex h0
    simp only [toBy_enc] at *
    exact c_laws_FnLocate _ h1
  · exact h.elim
theorem en_laws_FnLocate : Enters Try.prog 10 := enters_of Try.func10 (by kernel_rfl) rfl

end Go.Proofs.Ytemppebemahkoaa
