/- The law on areas: the walk. -/
import Derived.Test.YtlcndghaendieaaB69
import Derived.Test.YtlcndghaendieaaBP
import Derived.Test.YtlcndghaendieaaPl45
set_option linter.unusedVariables false
set_option linter.unusedSimpArgs false
set_option maxHeartbeats 16000000
set_option maxRecDepth 100000
namespace Go.Proofs.Ytlcndghaendieaa
open Go Go.Ideal Go.Pl Go.Sort

/-- The polygon that a code draws. -/
def drawPoly (b : List Int) : List Pt := (aPoly (b.take 2000) 0).1
theorem drawPoly_len {b : List Int} (hb : ∀ x ∈ b, 0 ≤ x ∧ x < 256) : (drawPoly b).length ≤ 100 := (aPoly_len (bytes_take hb) (Nat.zero_le 700000)).1
def g_spec_DrawDoubleArea : List (Nat × PSpec) := []
theorem gok_spec_DrawDoubleArea : GOK Try.prog g_spec_DrawDoubleArea := gok0
def h_spec_DrawDoubleArea : List (Nat × HSpec) := [(35, hs_spec_newReader), (34, hs_spec_anyPolygon)]
theorem hok_spec_DrawDoubleArea : HOK Try.prog h_spec_DrawDoubleArea := hok_cons hk_spec_newReader en_spec_newReader (hok_cons hk_spec_anyPolygon en_spec_anyPolygon (hok0))
theorem lh_spec_DrawDoubleArea_spec_newReader : lkHS h_spec_DrawDoubleArea 35 = some hs_spec_newReader := rfl
theorem lh_spec_DrawDoubleArea_spec_anyPolygon : lkHS h_spec_DrawDoubleArea 34 = some hs_spec_anyPolygon := rfl
theorem c_spec_DrawDoubleArea (b : List Int) (hb : ∀ x ∈ b, 0 ≤ x ∧ x < 256) (hsz : b.length ≤ 1048576) : ICall Try.prog 13 [.sl 1 (encBy b)] (.sl 2 (encPs (drawPoly b))) := by
  refine icall_V (G := g_spec_DrawDoubleArea) (H := h_spec_DrawDoubleArea) [] tabOK mixed gok_spec_DrawDoubleArea hok_spec_DrawDoubleArea Try.func13 rfl Try.ntmps13 Try.results13 rfl (by kernel_rfl) fun F hN hlen => ?_
  have hbt := bytes_take hb
  have hd : (aPoly (b.take 2000) 0).1 = drawPoly b := rfl
  simp only [V_seq, V_ret, V_region, W_nil, W_cons, effOp2, KN_seq, KXr_nil, QE, effOp, effPure, Option.isSome_some, skipE, pureV, ofC, strip, lkT, lkH, ISt.app, opI, gO, gB, allB, gval, wrapG, dstOK, setD, mentTm, mentHp, IV.ment, IV.mentL, lendV, lendP, lent, lentP, idsV, idsL, clean, callArgs, callFn, enumT, Gives, Ideal.Fin, conv, conv0, convL, IBlk.shape, Op.operands, reduceIte, reduceCtorEq, cond_true, cond_false, Bool.or_false, Bool.and_true, Bool.not_false, Nat.reduceAdd, Nat.reduceSub, Nat.reduceMul, Nat.reduceLT, Nat.reduceLeDiff, Nat.reduceEqDiff, Nat.add_zero, not_false_eq_true, beq_self_eq_true, and_false, and_self, implies_true, List.map_cons, List.map_nil, List.nil_append, List.cons_append, List.append_nil, List.all_nil, Option.map_some, Option.map_none, List.getD_cons_zero, ex_clo, Bool.true_eq_false, Bool.false_eq_true, hN, Int.toNat_natCast, isBy_enc, toBy_enc, SLe0, convTm, convHp, convB, sm, effH, mkHC0, mkHC1, lendM, lentM, lentI, allHere, addIds, idsB, flatIds, reach, posn, renV, renL, renB, renH, numB, subHp, fwd, bk, bwd, nones, keyOK, noSl, noSlL, flatBs, List.contains, List.elem, Option.isSome_some, List.nodup_nil, List.nodup_cons, List.not_mem_nil, or_false, Option.getD_some, lh_spec_DrawDoubleArea_spec_newReader, lh_spec_DrawDoubleArea_spec_anyPolygon, hs_spec_newReader, hs_spec_anyPolygon, rdr, hsz, hbt, hd]
def sp_spec_DrawDoubleArea : PSpec := ⟨fun xs => match xs with | [.sl 1 bes] => isBy bes ∧ ((fun (b : List Int) => ∀ x ∈ b, 0 ≤ x ∧ x < 256) (toIs bes)) ∧ ((fun (b : List Int) => b.length ≤ 1048576) (toIs bes)) | _ => False, fun xs => match xs with | [.sl _ bes] => (fun (b : List Int) => .sl 2 (encPs (drawPoly b))) (toIs bes) | _ => .junk, false⟩
theorem gk_spec_DrawDoubleArea : ∀ args, sp_spec_DrawDoubleArea.pre args → ICall Try.prog 13 args (sp_spec_DrawDoubleArea.val args) := by
  intro args h
  unfold sp_spec_DrawDoubleArea at h ⊢; simp only at h ⊢; split at h
  · obtain ⟨h0, h1, h2⟩ := h
    obtain ⟨l0, rfl⟩ := isBy_ex h0
    simp only [toBy_enc] at *
    exact c_spec_DrawDoubleArea _ h1 h2
  · exact h.elim
theorem en_spec_DrawDoubleArea : Enters Try.prog 13 := enters_of Try.func13 (by kernel_rfl) rfl

theorem near_sm {l : List Pt} (hn : l.all nearB = true) : SmL l := by
  intro p hp
  rw [List.all_eq_true] at hn
  have := hn p hp
  simp only [nearB, Bool.and_eq_true, Bool.not_eq_true', decide_eq_false_iff_not] at this
  unfold Sm sm1; omega
theorem area_sum (l : List Pt) : areaP l = sumN l l.length := by
  have : ∀ i, areaN l i = sumN l i := by
    intro i
    induction i with
    | zero => rfl
    | succ i ih => rw [areaN, sumN, ih]; rfl
  exact this _
theorem darea_rev (l : List Pt) : dareaP l.reverse = -dareaP l := by
  rw [dareaP, dareaP, simp_rev]
  cases simpB l with
  | false => rfl
  | true =>
    rw [cond_true, cond_true, area_sum, area_sum, List.length_reverse, area_rev]
theorem darea_rot {l : List Pt} {r : Nat} (hr : r < l.length) : dareaP (l.drop r ++ l.take r) = dareaP l := by
  have e : l.drop r ++ l.take r = rotP l r := rfl
  rw [e, dareaP, dareaP, simp_rot hr, area_sum, area_sum, rot_len, area_rot hr]
theorem darea_mv {l : List Pt} (hn : l.all nearB = true) {dx dy : Int} (hx : -100 ≤ dx ∧ dx ≤ 100) (hy : -100 ≤ dy ∧ dy ≤ 100) : dareaP (l.map (mv dx dy)) = dareaP l := by
  rw [dareaP, dareaP, simp_mv hn hx hy, area_sum, area_sum, List.length_map, area_mv]
theorem darea_ne {l : List Pt} (hs : simpB l = true) : dareaP l ≠ 0 := by
  obtain ⟨f1, f2, f3, f4⟩ := ring_facts (simp_ring hs)
  have hp : pairsP l = true := by
    simp only [simpB, Bool.and_eq_true] at hs; exact hs.2
  rw [dareaP, hs, cond_true, area_sum]
  exact area_ne f4 f2 hp
theorem darea_bd {l : List Pt} (hs : simpB l = true) : -1000000000000 ≤ dareaP l ∧ dareaP l ≤ 1000000000000 := by
  obtain ⟨f1, f2, f3, f4⟩ := ring_facts (simp_ring hs)
  have h := areaN_bd (okPs_sm f1) l.length
  rw [dareaP, hs, cond_true]
  unfold areaP
  omega
def g_laws_FnDoubleArea : List (Nat × PSpec) := [(13, sp_spec_DrawDoubleArea), (14, sp_impl_DoubleArea), (15, sp_spec_DoubleArea), (9, sp_impl_IsSimple), (16, sp_laws_backwards), (17, sp_laws_near), (18, sp_laws_moved)]
theorem gok_laws_FnDoubleArea : GOK Try.prog g_laws_FnDoubleArea := gok_cons gk_spec_DrawDoubleArea en_spec_DrawDoubleArea (gok_cons gk_impl_DoubleArea en_impl_DoubleArea (gok_cons gk_spec_DoubleArea en_spec_DoubleArea (gok_cons gk_impl_IsSimple en_impl_IsSimple (gok_cons gk_laws_backwards en_laws_backwards (gok_cons gk_laws_near en_laws_near (gok_cons gk_laws_moved en_laws_moved (gok0)))))))
theorem lk_laws_FnDoubleArea_spec_DrawDoubleArea : lkG g_laws_FnDoubleArea 13 = sp_spec_DrawDoubleArea := rfl
theorem lk_laws_FnDoubleArea_impl_DoubleArea : lkG g_laws_FnDoubleArea 14 = sp_impl_DoubleArea := rfl
theorem lk_laws_FnDoubleArea_spec_DoubleArea : lkG g_laws_FnDoubleArea 15 = sp_spec_DoubleArea := rfl
theorem lk_laws_FnDoubleArea_impl_IsSimple : lkG g_laws_FnDoubleArea 9 = sp_impl_IsSimple := rfl
theorem lk_laws_FnDoubleArea_laws_backwards : lkG g_laws_FnDoubleArea 16 = sp_laws_backwards := rfl
theorem lk_laws_FnDoubleArea_laws_near : lkG g_laws_FnDoubleArea 17 = sp_laws_near := rfl
theorem lk_laws_FnDoubleArea_laws_moved : lkG g_laws_FnDoubleArea 18 = sp_laws_moved := rfl
def h_laws_FnDoubleArea : List (Nat × HSpec) := []
theorem hok_laws_FnDoubleArea : HOK Try.prog h_laws_FnDoubleArea := hok0
theorem c_laws_FnDoubleArea (b : List Int) (c : List Int) (hb : ∀ x ∈ b, 0 ≤ x ∧ x < 256) (hc : ∀ x ∈ c, 0 ≤ x ∧ x < 256) : ICall Try.prog 4 [.sl 1 (encBy b), .sl 1 (encBy c)] (.bool true) := by
  refine icall_V (G := g_laws_FnDoubleArea) (H := []) [(8, [(0, 4), (1, 4), (0, 5), (1, 5), (3, 5), (4, 6), (5, 6), (4, 7), (5, 7), (4, 8), (4, 9), (5, 9), (4, 10), (0, 11), (1, 11), (2, 11), (3, 11), (4, 11), (5, 11), (6, 11), (7, 11), (8, 11), (9, 11), (4, 12), (5, 12), (11, 12), (4, 13), (5, 13), (11, 13), (4, 14), (5, 14), (11, 14), (0, 15), (1, 15), (2, 15), (3, 15), (4, 15), (5, 15), (6, 15), (7, 15), (8, 15), (9, 15), (12, 15), (13, 15), (4, 16), (5, 16), (11, 16), (15, 16), (4, 17), (5, 17), (11, 17), (15, 17), (4, 18), (5, 18), (11, 18), (15, 18), (0, 19), (1, 19), (2, 19), (3, 19), (4, 19), (5, 19), (6, 19), (7, 19), (8, 19), (9, 19), (11, 19), (12, 19), (13, 19), (14, 19), (16, 19), (17, 19), (0, 20), (1, 20), (2, 20), (3, 20), (4, 20), (5, 20), (6, 20), (7, 20), (8, 20), (9, 20), (11, 20), (12, 20), (13, 20), (14, 20), (15, 20), (16, 20), (17, 20), (18, 20), (4, 21), (5, 21), (11, 21), (15, 21), (19, 21), (20, 21), (4, 22), (5, 22), (11, 22), (15, 22), (19, 22), (4, 23), (5, 23), (11, 23), (15, 23), (19, 23), (20, 23), (4, 24), (5, 24), (11, 24), (15, 24), (19, 24), (4, 25), (5, 25), (11, 25), (15, 25), (19, 25), (20, 25), (0, 26), (1, 26), (2, 26), (3, 26), (4, 26), (5, 26), (6, 26), (7, 26), (8, 26), (9, 26), (10, 26), (11, 26), (12, 26), (13, 26), (14, 26), (15, 26), (16, 26), (17, 26), (18, 26), (19, 26), (20, 26), (21, 26), (22, 26), (23, 26), (4, 27), (5, 27), (11, 27), (15, 27), (19, 27), (20, 27), (4, 28), (5, 28), (11, 28), (15, 28), (19, 28), (20, 28), (4, 29), (5, 29), (11, 29), (15, 29), (19, 29), (20, 29), (26, 29), (0, 30), (1, 30), (2, 30), (3, 30), (4, 30), (5, 30), (6, 30), (7, 30), (8, 30), (9, 30), (10, 30), (11, 30), (12, 30), (13, 30), (14, 30), (15, 30), (16, 30), (17, 30), (18, 30), (19, 30), (20, 30), (21, 30), (22, 30), (23, 30), (24, 30), (25, 30), (26, 30), (27, 30), (0, 31), (1, 31), (2, 31), (3, 31), (4, 31), (5, 31), (6, 31), (7, 31), (8, 31), (9, 31), (10, 31), (11, 31), (12, 31), (13, 31), (14, 31), (15, 31), (16, 31), (17, 31), (18, 31), (19, 31), (20, 31), (21, 31), (22, 31), (23, 31), (24, 31), (25, 31), (26, 31), (27, 31), (29, 31), (4, 32), (5, 32), (11, 32), (15, 32), (19, 32), (20, 32), (26, 32), (30, 32), (31, 32), (4, 33), (5, 33), (11, 33), (15, 33), (19, 33), (20, 33), (26, 33), (30, 33), (4, 34), (5, 34), (11, 34), (15, 34), (19, 34), (20, 34), (26, 34), (30, 34), (31, 34), (4, 35), (5, 35), (11, 35), (15, 35), (19, 35), (20, 35), (26, 35), (30, 35), (31, 35)])] tabOK mixed gok_laws_FnDoubleArea hok_laws_FnDoubleArea Try.func4 rfl Try.ntmps4 Try.results4 rfl (by kernel_rfl) fun F hN hlen => ?_
  have eb := len_encBy b
  have ec := len_encBy c
  have bb : ∀ x : Int, (x != x) = false := fun x => by simp
  have bb2 : ∀ x : Int, (x == x) = true := fun x => by simp
  cases d1 : decide (1048576 < (b.length : Int)) with
  | true => simp only [V_seq, V_ret, V_region, V_cond, brW_true, W_nil, W_cons, effOp2, KN_seq, KXr_nil, KXr_seq, QE, asB, effOp, effPure, effPick, pureV, pickV, binV, lenV, ofC, strip, lkT, lkH, ISt.app, opI, gO, gB, allB, gval, wrapG, dstOK, setD, clean, enumT, Gives, Ideal.Fin, conv, conv0, Op.operands, Call.operands, List.append_toArray, reduceIte, reduceCtorEq, cond_true, Nat.reduceLT, Nat.reduceEqDiff, Nat.zero_add, ne_eq, not_false_eq_true, and_true, and_self, false_implies, implies_true, List.nil_append, List.cons_append, List.append_nil, Option.bind_some, List.getElem?_cons_zero, List.getElem?_cons_succ, btf, Bool.true_eq_false, Bool.false_eq_true, tab22, hN, eb, d1]
  | false =>
    cases d2 : decide (1048576 < (c.length : Int)) with
    | true => simp only [V_seq, V_ret, V_region, V_cond, brW_true, W_nil, W_cons, effOp2, KN_seq, KXr_nil, KXr_seq, QE, asB, effOp, effPure, effPick, pureV, pickV, binV, lenV, ofC, strip, lkT, lkH, ISt.app, opI, gO, gB, allB, gval, wrapG, dstOK, setD, clean, enumT, Gives, Ideal.Fin, conv, conv0, Op.operands, Call.operands, List.append_toArray, reduceIte, reduceCtorEq, cond_false, Nat.reduceLT, Nat.reduceEqDiff, Nat.zero_add, ne_eq, not_false_eq_true, beq_self_eq_true, and_self, implies_true, List.nil_append, List.cons_append, List.append_nil, Option.bind_some, List.getElem?_cons_zero, List.getElem?_cons_succ, Bool.false_eq_true, tab22, hN, eb, ec, d1, d2]
    | false =>
      have hsz : b.length ≤ 1048576 := by simp at d1; omega
      have hsc : c.length ≤ 1048576 := by simp at d2; omega
      have hl := drawPoly_len hb
      obtain ⟨l, hl0⟩ : ∃ l, drawPoly b = l := ⟨_, rfl⟩
      rw [hl0] at hl
      have e1 := len_encPs l
      cases hs : simpB l with
      | false =>
        have hv : dareaP l = 0 := by rw [dareaP, hs]; rfl
        simp only [V_seq, V_skip, V_ret, V_region, V_cond, brW_true, brW_false, W_nil, W_cons, effOp2, KN_seq, KXr_nil, KXr_seq, QE, asB, effOp, effPure, effPick, effCall, giveUp, hasAll, pureV, pickV, binV, lenV, ofC, strip, lkT, lkH, ISt.app, opI, gO, gB, allB, gval, wrapG, dstOK, setD, lendV, lendP, lent, lentP, idsV, idsL, lkHS, flat, clean, callArgs, callFn, allLent, enumT, Gives, Ideal.Fin, conv, conv0, Op.operands, Call.operands, List.append_toArray, reduceIte, reduceCtorEq, cond_true, cond_false, Bool.or_false, Bool.not_true, Bool.not_false, Nat.reduceLT, Nat.reduceEqDiff, Nat.zero_add, ne_eq, not_false_eq_true, beq_self_eq_true, true_and, and_true, and_self, implies_true, forall_const, List.map_cons, List.map_nil, List.nil_append, List.cons_append, List.append_nil, Option.bind_some, List.getElem?_cons_zero, List.getElem?_cons_succ, ex_clo, or_true, or_self, Bool.true_eq_false, Bool.false_eq_true, tab22, hN, isPs_enc, toPs_enc, isBy_enc, toBy_enc, lk_laws_FnDoubleArea_spec_DrawDoubleArea, lk_laws_FnDoubleArea_impl_DoubleArea, lk_laws_FnDoubleArea_spec_DoubleArea, lk_laws_FnDoubleArea_impl_IsSimple, sp_spec_DrawDoubleArea, sp_impl_DoubleArea, sp_spec_DoubleArea, sp_impl_IsSimple, eb, ec, d1, d2, hsz, hl0, hv, hs, bb]
        exact hb
      | true =>
        obtain ⟨g1, g2, g3, g4⟩ := ring_facts (simp_ring hs)
        have hpos : 0 < l.length := by omega
        have hne : (dareaP l != 0) = true := by rw [bne_iff_ne]; exact darea_ne hs
        have hbd := darea_bd hs
        have d5 : ((l.length : Int) == 0) = false := by rw [beq_eq_false_iff_ne]; omega
        obtain ⟨k, hk0⟩ : ∃ k, c.length % l.length = k := ⟨_, rfl⟩
        have hkl : k < l.length := by have := Nat.mod_lt c.length hpos; omega
        have t1 : (c.length : Int).tmod (l.length : Int) = (k : Int) := by rw [Int.tmod_eq_emod_of_nonneg (by omega), ← hk0]; simp
        have tk : Int.toNat (k : Int) = k := Int.toNat_natCast k
        have f1 : dareaP (l.drop k ++ l.take k) = dareaP l := darea_rot hkl
        have f2 := darea_rev l
        have hz : l.length ≤ 1000000 := by omega
        have eD : (encPs (l.drop k)).length = l.length - k := by rw [len_encPs, List.length_drop]
        have eT : (encPs (l.take k)).length = k := by rw [len_encPs, List.length_take]; omega
        have y1 : l.length - k + k = l.length := by omega
        have y2 : (l.drop k).take (l.length - k) = l.drop k := List.take_of_length_le (by rw [List.length_drop]; exact Nat.le_refl _)
        have y3 : (l.drop k ++ l.take k).take l.length = l.drop k ++ l.take k := List.take_of_length_le (by rw [List.length_append, List.length_drop, List.length_take]; omega)
        have y4 : (encPs (l.drop k ++ l.take k)).length = l.length := by rw [len_encPs, List.length_append, List.length_drop, List.length_take]; omega
        cases hn : l.all nearB with
        | false =>
          obtain ⟨m, hm0⟩ : ∃ m, dareaP l = m := ⟨_, rfl⟩
          rw [hm0] at f1 f2 hne hbd
          have w1 : IntKind.i64.wrap (-m) = -m := wr (by omega) (by omega)
          simp only [V_seq, V_skip, V_ret, V_region, V_draw, V_cond, brW_false, drawW, WS_nil, pairsOf, W_nil, W_cons, effOp2, effOp3, WI_nil, WI_cons, KN_seq, KXr_nil, QE, dynOK, indB, farB, seeB, see, isStore, freshB, freshK, freshK1, ownId, heapy, asB, effOp, effPure, effPick, effNew, effBuildSlice, effFrz, frz, tmpsOf, effAppend, effZeros, effCall, giveUp, hasAll, Option.isSome_some, skipE, pureV, pickV, srcV, refId, binV, sliceV, lenV, ofC, strip, lkT, lkH, ISt.app, opI, gO, gB, allB, gval, wrapG, dstOK, setD, mentTm, mentHp, IV.ment, IV.mentL, partsL, eltsI, lendV, lendP, lent, lentP, idsV, idsL, lkHS, flat, clean, callArgs, callFn, allLent, enumT, Gives, Ideal.Fin, conv, conv0, Op.operands, Call.operands, List.append_toArray, Array.append_empty, Option.toArray_none, Option.toArray_some, reduceIte, reduceCtorEq, cond_true, cond_false, Bool.or_false, Bool.or_true, Bool.and_true, Bool.and_false, Bool.and_eq_true, Bool.not_true, Bool.not_false, Nat.reduceAdd, Nat.reduceMul, Nat.reduceLT, Nat.reduceLeDiff, Nat.reduceEqDiff, Nat.reduceBEq, Nat.zero_add, ne_eq, not_false_eq_true, beq_self_eq_true, true_and, and_true, false_and, and_false, and_self, false_implies, implies_true, forall_const, List.map_cons, List.map_nil, List.nil_append, List.cons_append, List.append_nil, List.all_cons, List.all_nil, Option.map_some, Option.map_none, Option.bind_some, List.getElem?_cons_zero, List.getElem?_cons_succ, List.getD_cons_zero, List.getD_cons_succ, List.length_nil, List.take_zero, List.take_nil, List.drop_zero, ex_clo, btf, or_true, or_self, Bool.true_eq_false, Bool.false_eq_true, tab22, tab23, tab28, hN, isPs_enc, toPs_enc, isBy_enc, toBy_enc, lk_laws_FnDoubleArea_spec_DrawDoubleArea, lk_laws_FnDoubleArea_impl_DoubleArea, lk_laws_FnDoubleArea_spec_DoubleArea, lk_laws_FnDoubleArea_impl_IsSimple, lk_laws_FnDoubleArea_laws_backwards, lk_laws_FnDoubleArea_laws_near, lk_laws_FnDoubleArea_laws_moved, sp_spec_DrawDoubleArea, sp_impl_DoubleArea, sp_spec_DoubleArea, sp_impl_IsSimple, sp_laws_backwards, sp_laws_near, sp_laws_moved, eb, ec, d1, d2, hsz, hl0, e1, hs, hm0, hne, hn, w1, bb, t1, tk, encPs_drop, encPs_take, encPs_app, f1, f2, hz, eD, eT, y1, y2, y3, y4]
          exact ⟨hb, by omega, ⟨by omega, by omega⟩, by omega, ⟨by omega, by omega⟩, ⟨Nat.le_refl _, by omega⟩, Nat.le_refl _⟩
        | true =>
          have hm := near_sm hn
          have f3 := darea_mv hn (dx := 5) (dy := 9) (by omega) (by omega)
          have x1 : sm1 5 := by unfold sm1; omega
          have x2 : sm1 9 := by unfold sm1; omega
          obtain ⟨m, hm0⟩ : ∃ m, dareaP l = m := ⟨_, rfl⟩
          rw [hm0] at f1 f2 f3 hne hbd
          have w1 : IntKind.i64.wrap (-m) = -m := wr (by omega) (by omega)
          simp only [V_seq, V_skip, V_ret, V_region, V_draw, V_cond, brW_false, drawW, WS_nil, pairsOf, W_nil, W_cons, effOp2, effOp3, WI_nil, WI_cons, KN_seq, KXr_nil, QE, dynOK, indB, farB, seeB, see, isStore, freshB, freshK, freshK1, ownId, heapy, asB, effOp, effPure, effPick, effNew, effBuildSlice, effFrz, frz, tmpsOf, effAppend, effZeros, effCall, giveUp, hasAll, Option.isSome_some, skipE, pureV, pickV, srcV, refId, binV, sliceV, lenV, ofC, strip, lkT, lkH, ISt.app, opI, gO, gB, allB, gval, wrapG, dstOK, setD, mentTm, mentHp, IV.ment, IV.mentL, partsL, eltsI, lendV, lendP, lent, lentP, idsV, idsL, lkHS, flat, clean, callArgs, callFn, allLent, enumT, Gives, Ideal.Fin, conv, conv0, Op.operands, Call.operands, List.append_toArray, Array.append_empty, Option.toArray_none, Option.toArray_some, reduceIte, reduceCtorEq, cond_true, cond_false, Bool.or_false, Bool.or_true, Bool.and_true, Bool.and_false, Bool.and_eq_true, Bool.not_true, Bool.not_false, Nat.reduceAdd, Nat.reduceMul, Nat.reduceLT, Nat.reduceLeDiff, Nat.reduceEqDiff, Nat.reduceBEq, Nat.zero_add, ne_eq, not_false_eq_true, beq_self_eq_true, true_and, and_true, and_self, implies_true, forall_const, List.map_cons, List.map_nil, List.nil_append, List.cons_append, List.append_nil, List.all_cons, List.all_nil, Option.map_some, Option.map_none, Option.bind_some, List.getElem?_cons_zero, List.getElem?_cons_succ, List.getD_cons_zero, List.getD_cons_succ, List.length_nil, List.take_zero, List.take_nil, List.drop_zero, ex_clo, or_true, or_self, Bool.true_eq_false, Bool.false_eq_true, tab22, tab23, tab28, hN, isPs_enc, toPs_enc, isBy_enc, toBy_enc, lk_laws_FnDoubleArea_spec_DrawDoubleArea, lk_laws_FnDoubleArea_impl_DoubleArea, lk_laws_FnDoubleArea_spec_DoubleArea, lk_laws_FnDoubleArea_impl_IsSimple, lk_laws_FnDoubleArea_laws_backwards, lk_laws_FnDoubleArea_laws_near, lk_laws_FnDoubleArea_laws_moved, sp_spec_DrawDoubleArea, sp_impl_DoubleArea, sp_spec_DoubleArea, sp_impl_IsSimple, sp_laws_backwards, sp_laws_near, sp_laws_moved, eb, ec, d1, d2, hsz, hl0, e1, hs, hm0, hne, hn, hm, x1, x2, w1, bb, t1, tk, encPs_drop, encPs_take, encPs_app, f1, f2, f3, hz, eD, eT, y1, y2, y3, y4]
          exact ⟨hb, by omega, ⟨by omega, by omega⟩, by omega, ⟨by omega, by omega⟩, ⟨Nat.le_refl _, by omega⟩, Nat.le_refl _⟩
def sp_laws_FnDoubleArea : PSpec := ⟨fun xs => match xs with | [.sl 1 bes, .sl 1 ces] => isBy bes ∧ isBy ces ∧ ((fun (b : List Int) (c : List Int) => ∀ x ∈ b, 0 ≤ x ∧ x < 256) (toIs bes) (toIs ces)) ∧ ((fun (b : List Int) (c : List Int) => ∀ x ∈ c, 0 ≤ x ∧ x < 256) (toIs bes) (toIs ces)) | _ => False, fun xs => match xs with | [.sl _ bes, .sl _ ces] => (fun (b : List Int) (c : List Int) => .bool true) (toIs bes) (toIs ces) | _ => .junk, false⟩
theorem gk_laws_FnDoubleArea : ∀ args, sp_laws_FnDoubleArea.pre args → ICall Try.prog 4 args (sp_laws_FnDoubleArea.val args) := by
  intro args h
  unfold sp_laws_FnDoubleArea at h ⊢; simp only at h ⊢; split at h
  · obtain ⟨h0, h1, h2, h3⟩ := h
    obtain ⟨l0, rfl⟩ := isBy_ex h0
    obtain ⟨l1, rfl⟩ := isBy_ex h1
    simp only [toBy_enc] at *
    exact c_laws_FnDoubleArea _ _ h2 h3
  · exact h.elim
theorem en_laws_FnDoubleArea : Enters Try.prog 4 := enters_of Try.func4 (by kernel_rfl) rfl

end Go.Proofs.Ytlcndghaendieaa
