/- Drawn polygons and points; points on segments; the laws on simple polygons and on lattice points: the walks. -/
import Derived.Test.YtemppebemahkoaaB69
import Derived.Test.YtemppebemahkoaaBP
set_option linter.unusedVariables false
set_option linter.unusedSimpArgs false
set_option maxHeartbeats 16000000
set_option maxRecDepth 100000
namespace Go.Proofs.Ytemppebemahkoaa
open Go Go.Ideal Go.Pl Go.Sort

/-- The polygon that a code draws. -/
def drawPoly (b : List Int) : List Pt := (aPoly (b.take 2000) 0).1
theorem drawPoly_len {b : List Int} (hb : ∀ x ∈ b, 0 ≤ x ∧ x < 256) : (drawPoly b).length ≤ 100 := (aPoly_len (bytes_take hb) (Nat.zero_le 700000)).1
def g_spec_DrawIsSimple : List (Nat × PSpec) := []
theorem gok_spec_DrawIsSimple : GOK Try.prog g_spec_DrawIsSimple := gok0
def h_spec_DrawIsSimple : List (Nat × HSpec) := [(65, hs_spec_newReader), (114, hs_spec_anyPolygon)]
theorem hok_spec_DrawIsSimple : HOK Try.prog h_spec_DrawIsSimple := hok_cons hk_spec_newReader en_spec_newReader (hok_cons hk_spec_anyPolygon en_spec_anyPolygon (hok0))
theorem lh_spec_DrawIsSimple_spec_newReader : lkHS h_spec_DrawIsSimple 65 = some hs_spec_newReader := rfl
theorem lh_spec_DrawIsSimple_spec_anyPolygon : lkHS h_spec_DrawIsSimple 114 = some hs_spec_anyPolygon := rfl
theorem c_spec_DrawIsSimple (b : List Int) (hb : ∀ x ∈ b, 0 ≤ x ∧ x < 256) (hsz : b.length ≤ 1048576) : ICall Try.prog 51 [.sl 1 (encBy b)] (.sl 2 (encPs (drawPoly b))) := by
  refine icall_V (G := g_spec_DrawIsSimple) (H := h_spec_DrawIsSimple) [] tabOK mixed gok_spec_DrawIsSimple hok_spec_DrawIsSimple Try.func51 rfl Try.ntmps51 Try.results51 rfl (by kernel_rfl) fun F hN hlen => ?_
  have hbt := bytes_take hb
  have hd : (aPoly (b.take 2000) 0).1 = drawPoly b := rfl
  simp only [V_seq, V_ret, V_region, W_nil, W_cons, effOp2, KN_seq, KXr_nil, QE, effOp, effPure, Option.isSome_some, skipE, pureV, ofC, strip, lkT, lkH, ISt.app, opI, gO, gB, allB, gval, wrapG, dstOK, setD, mentTm, mentHp, IV.ment, IV.mentL, lendV, lendP, lent, lentP, idsV, idsL, clean, callArgs, callFn, enumT, Gives, Ideal.Fin, conv, conv0, convL, IBlk.shape, Op.operands, reduceIte, reduceCtorEq, cond_true, cond_false, Bool.or_false, Bool.and_true, Bool.not_false, Nat.reduceAdd, Nat.reduceSub, Nat.reduceMul, Nat.reduceLT, Nat.reduceLeDiff, Nat.reduceEqDiff, Nat.add_zero, not_false_eq_true, beq_self_eq_true, and_false, and_self, implies_true, List.map_cons, List.map_nil, List.nil_append, List.cons_append, List.append_nil, List.all_nil, Option.map_some, Option.map_none, List.getD_cons_zero, ex_clo, Bool.true_eq_false, Bool.false_eq_true, hN, Int.toNat_natCast, isBy_enc, toBy_enc, SLe0, convTm, convHp, convB, sm, effH, mkHC0, mkHC1, lendM, lentM, lentI, allHere, addIds, idsB, flatIds, reach, posn, renV, renL, renB, renH, numB, subHp, fwd, bk, bwd, nones, keyOK, noSl, noSlL, flatBs, List.contains, List.elem, Option.isSome_some, List.nodup_nil, List.nodup_cons, List.not_mem_nil, or_false, Option.getD_some, lh_spec_DrawIsSimple_spec_newReader, lh_spec_DrawIsSimple_spec_anyPolygon, hs_spec_newReader, hs_spec_anyPolygon, rdr, hsz, hbt, hd]
def sp_spec_DrawIsSimple : PSpec := ⟨fun xs => match xs with | [.sl 1 bes] => isBy bes ∧ ((fun (b : List Int) => ∀ x ∈ b, 0 ≤ x ∧ x < 256) (toIs bes)) ∧ ((fun (b : List Int) => b.length ≤ 1048576) (toIs bes)) | _ => False, fun xs => match xs with | [.sl _ bes] => (fun (b : List Int) => .sl 2 (encPs (drawPoly b))) (toIs bes) | _ => .junk, false⟩
theorem gk_spec_DrawIsSimple : ∀ args, sp_spec_DrawIsSimple.pre args → ICall Try.prog 51 args (sp_spec_DrawIsSimple.val args) := by
  intro args h
  unfold sp_spec_DrawIsSimple at h ⊢; simp only at h ⊢; split at h
  · obtain ⟨h0, h1, h2⟩ := h
    obtain ⟨l0, rfl⟩ := isBy_ex h0
    simp only [toBy_enc] at *
    exact c_spec_DrawIsSimple _ h1 h2
  · exact h.elim
theorem en_spec_DrawIsSimple : Enters Try.prog 51 := enters_of Try.func51 (by kernel_rfl) rfl

def g_spec_DrawBoundaryCount : List (Nat × PSpec) := []
theorem gok_spec_DrawBoundaryCount : GOK Try.prog g_spec_DrawBoundaryCount := gok0
def h_spec_DrawBoundaryCount : List (Nat × HSpec) := [(65, hs_spec_newReader), (114, hs_spec_anyPolygon)]
theorem hok_spec_DrawBoundaryCount : HOK Try.prog h_spec_DrawBoundaryCount := hok_cons hk_spec_newReader en_spec_newReader (hok_cons hk_spec_anyPolygon en_spec_anyPolygon (hok0))
theorem lh_spec_DrawBoundaryCount_spec_newReader : lkHS h_spec_DrawBoundaryCount 65 = some hs_spec_newReader := rfl
theorem lh_spec_DrawBoundaryCount_spec_anyPolygon : lkHS h_spec_DrawBoundaryCount 114 = some hs_spec_anyPolygon := rfl
theorem c_spec_DrawBoundaryCount (b : List Int) (hb : ∀ x ∈ b, 0 ≤ x ∧ x < 256) (hsz : b.length ≤ 1048576) : ICall Try.prog 56 [.sl 1 (encBy b)] (.sl 2 (encPs (drawPoly b))) := by
  refine icall_V (G := g_spec_DrawBoundaryCount) (H := h_spec_DrawBoundaryCount) [] tabOK mixed gok_spec_DrawBoundaryCount hok_spec_DrawBoundaryCount Try.func56 rfl Try.ntmps56 Try.results56 rfl (by kernel_rfl) fun F hN hlen => ?_
  have hbt := bytes_take hb
  have hd : (aPoly (b.take 2000) 0).1 = drawPoly b := rfl
  simp only [V_seq, V_ret, V_region, W_nil, W_cons, effOp2, KN_seq, KXr_nil, QE, effOp, effPure, Option.isSome_some, skipE, pureV, ofC, strip, lkT, lkH, ISt.app, opI, gO, gB, allB, gval, wrapG, dstOK, setD, mentTm, mentHp, IV.ment, IV.mentL, lendV, lendP, lent, lentP, idsV, idsL, clean, callArgs, callFn, enumT, Gives, Ideal.Fin, conv, conv0, convL, IBlk.shape, Op.operands, reduceIte, reduceCtorEq, cond_true, cond_false, Bool.or_false, Bool.and_true, Bool.not_false, Nat.reduceAdd, Nat.reduceSub, Nat.reduceMul, Nat.reduceLT, Nat.reduceLeDiff, Nat.reduceEqDiff, Nat.add_zero, not_false_eq_true, beq_self_eq_true, and_false, and_self, implies_true, List.map_cons, List.map_nil, List.nil_append, List.cons_append, List.append_nil, List.all_nil, Option.map_some, Option.map_none, List.getD_cons_zero, ex_clo, Bool.true_eq_false, Bool.false_eq_true, hN, Int.toNat_natCast, isBy_enc, toBy_enc, SLe0, convTm, convHp, convB, sm, effH, mkHC0, mkHC1, lendM, lentM, lentI, allHere, addIds, idsB, flatIds, reach, posn, renV, renL, renB, renH, numB, subHp, fwd, bk, bwd, nones, keyOK, noSl, noSlL, flatBs, List.contains, List.elem, Option.isSome_some, List.nodup_nil, List.nodup_cons, List.not_mem_nil, or_false, Option.getD_some, lh_spec_DrawBoundaryCount_spec_newReader, lh_spec_DrawBoundaryCount_spec_anyPolygon, hs_spec_newReader, hs_spec_anyPolygon, rdr, hsz, hbt, hd]
def sp_spec_DrawBoundaryCount : PSpec := ⟨fun xs => match xs with | [.sl 1 bes] => isBy bes ∧ ((fun (b : List Int) => ∀ x ∈ b, 0 ≤ x ∧ x < 256) (toIs bes)) ∧ ((fun (b : List Int) => b.length ≤ 1048576) (toIs bes)) | _ => False, fun xs => match xs with | [.sl _ bes] => (fun (b : List Int) => .sl 2 (encPs (drawPoly b))) (toIs bes) | _ => .junk, false⟩
theorem gk_spec_DrawBoundaryCount : ∀ args, sp_spec_DrawBoundaryCount.pre args → ICall Try.prog 56 args (sp_spec_DrawBoundaryCount.val args) := by
  intro args h
  unfold sp_spec_DrawBoundaryCount at h ⊢; simp only at h ⊢; split at h
  · obtain ⟨h0, h1, h2⟩ := h
    obtain ⟨l0, rfl⟩ := isBy_ex h0
    simp only [toBy_enc] at *
    exact c_spec_DrawBoundaryCount _ h1 h2
  · exact h.elim
theorem en_spec_DrawBoundaryCount : Enters Try.prog 56 := enters_of Try.func56 (by kernel_rfl) rfl

theorem near_sm {l : List Pt} (hn : l.all nearB = true) : SmL l := by
  intro p hp
  rw [List.all_eq_true] at hn
  have := hn p hp
  simp only [nearB, Bool.and_eq_true, Bool.not_eq_true', decide_eq_false_iff_not] at this
  unfold Sm sm1; omega
def g_laws_FnIsSimple : List (Nat × PSpec) := [(51, sp_spec_DrawIsSimple), (52, sp_impl_IsSimple), (53, sp_spec_IsSimple), (54, sp_laws_near), (50, sp_laws_backwards), (55, sp_laws_moved)]
theorem gok_laws_FnIsSimple : GOK Try.prog g_laws_FnIsSimple := gok_cons gk_spec_DrawIsSimple en_spec_DrawIsSimple (gok_cons gk_impl_IsSimple en_impl_IsSimple (gok_cons gk_spec_IsSimple en_spec_IsSimple (gok_cons gk_laws_near en_laws_near (gok_cons gk_laws_backwards en_laws_backwards (gok_cons gk_laws_moved en_laws_moved (gok0))))))
theorem lk_laws_FnIsSimple_spec_DrawIsSimple : lkG g_laws_FnIsSimple 51 = sp_spec_DrawIsSimple := rfl
theorem lk_laws_FnIsSimple_impl_IsSimple : lkG g_laws_FnIsSimple 52 = sp_impl_IsSimple := rfl
theorem lk_laws_FnIsSimple_spec_IsSimple : lkG g_laws_FnIsSimple 53 = sp_spec_IsSimple := rfl
theorem lk_laws_FnIsSimple_laws_near : lkG g_laws_FnIsSimple 54 = sp_laws_near := rfl
theorem lk_laws_FnIsSimple_laws_backwards : lkG g_laws_FnIsSimple 50 = sp_laws_backwards := rfl
theorem lk_laws_FnIsSimple_laws_moved : lkG g_laws_FnIsSimple 55 = sp_laws_moved := rfl
def h_laws_FnIsSimple : List (Nat × HSpec) := []
theorem hok_laws_FnIsSimple : HOK Try.prog h_laws_FnIsSimple := hok0
theorem c_laws_FnIsSimple (b : List Int) (c : List Int) (hb : ∀ x ∈ b, 0 ≤ x ∧ x < 256) (hc : ∀ x ∈ c, 0 ≤ x ∧ x < 256) : ICall Try.prog 11 [.sl 1 (encBy b), .sl 1 (encBy c)] (.bool true) := by
  refine icall_V (G := g_laws_FnIsSimple) (H := []) [(8, [(0, 1), (0, 2), (0, 3), (1, 4), (2, 4), (0, 5), (4, 5), (0, 6), (4, 6), (0, 7), (4, 7), (0, 8), (1, 8), (2, 8), (3, 8), (5, 8), (6, 8), (0, 9), (1, 9), (2, 9), (3, 9), (4, 9), (5, 9), (6, 9), (7, 9), (0, 10), (4, 10), (8, 10), (9, 10), (0, 11), (4, 11), (8, 11), (0, 12), (4, 12), (8, 12), (0, 13), (4, 13), (8, 13), (9, 13), (0, 14), (1, 14), (2, 14), (3, 14), (4, 14), (5, 14), (6, 14), (7, 14), (8, 14), (9, 14), (10, 14), (11, 14), (0, 15), (1, 15), (2, 15), (3, 15), (4, 15), (5, 15), (6, 15), (7, 15), (8, 15), (9, 15), (10, 15), (11, 15), (13, 15), (0, 16), (4, 16), (8, 16), (9, 16), (14, 16), (15, 16), (0, 17), (4, 17), (8, 17), (9, 17), (14, 17), (0, 18), (4, 18), (8, 18), (9, 18), (14, 18), (15, 18), (0, 19), (4, 19), (8, 19), (9, 19), (14, 19), (0, 20), (4, 20), (8, 20), (9, 20), (14, 20), (15, 20), (0, 21), (1, 21), (2, 21), (3, 21), (4, 21), (5, 21), (6, 21), (7, 21), (8, 21), (9, 21), (10, 21), (11, 21), (12, 21), (13, 21), (14, 21), (15, 21), (16, 21), (17, 21), (18, 21), (0, 22), (1, 22), (2, 22), (3, 22), (4, 22), (5, 22), (6, 22), (7, 22), (8, 22), (9, 22), (10, 22), (11, 22), (12, 22), (13, 22), (14, 22), (15, 22), (16, 22), (17, 22), (18, 22), (20, 22), (0, 23), (4, 23), (8, 23), (9, 23), (14, 23), (15, 23), (21, 23), (22, 23), (0, 24), (4, 24), (8, 24), (9, 24), (14, 24), (15, 24), (21, 24), (0, 25), (4, 25), (8, 25), (9, 25), (14, 25), (15, 25), (21, 25), (22, 25)])] tabOK mixed gok_laws_FnIsSimple hok_laws_FnIsSimple Try.func11 rfl Try.ntmps11 Try.results11 rfl (by kernel_rfl) fun F hN hlen => ?_
  have eb := len_encBy b
  have ec := len_encBy c
  have bb : ∀ x : Bool, (x != x) = false := fun x => by simp
  have bb2 : ∀ x : Bool, (x == x) = true := fun x => by simp
  cases d1 : decide (1048576 < (b.length : Int)) with
  | true => simp only [V_seq, V_ret, V_region, V_cond, brW_true, W_nil, W_cons, effOp2, KN_seq, KXr_nil, KXr_seq, QE, asB, effOp, effPure, effPick, pureV, pickV, binV, lenV, ofC, strip, lkT, lkH, ISt.app, opI, gO, gB, allB, gval, wrapG, dstOK, setD, clean, enumT, Gives, Ideal.Fin, conv, conv0, Op.operands, Call.operands, List.append_toArray, reduceIte, reduceCtorEq, cond_true, Nat.reduceLT, Nat.reduceEqDiff, Nat.zero_add, ne_eq, not_false_eq_true, and_true, and_self, false_implies, implies_true, List.nil_append, List.cons_append, List.append_nil, Option.bind_some, List.getElem?_cons_zero, List.getElem?_cons_succ, btf, Bool.true_eq_false, Bool.false_eq_true, tab22, hN, eb, d1]
  | false =>
    cases d2 : decide (1048576 < (c.length : Int)) with
    | true => simp only [V_seq, V_ret, V_region, V_cond, brW_true, W_nil, W_cons, effOp2, KN_seq, KXr_nil, KXr_seq, QE, asB, effOp, effPure, effPick, pureV, pickV, binV, lenV, ofC, strip, lkT, lkH, ISt.app, opI, gO, gB, allB, gval, wrapG, dstOK, setD, clean, enumT, Gives, Ideal.Fin, conv, conv0, Op.operands, Call.operands, List.append_toArray, reduceIte, reduceCtorEq, cond_false, Nat.reduceLT, Nat.reduceEqDiff, Nat.zero_add, ne_eq, not_false_eq_true, beq_self_eq_true, and_self, implies_true, List.nil_append, List.cons_append, List.append_nil, Option.bind_some, List.getElem?_cons_zero, List.getElem?_cons_succ, Bool.false_eq_true, tab22, hN, eb, ec, d1, d2]
    | false =>
      have hsz : b.length ≤ 1048576 := by simp at d1; omega
      have hsc : c.length ≤ 1048576 := by simp at d2; omega
      have hl := drawPoly_len hb
      obtain ⟨l, hl0⟩ : ∃ l, drawPoly b = l := ⟨_, rfl⟩
      rw [hl0] at hl
      have e1 := len_encPs l
      cases d3 : ((l.length : Int) == 0) with
      | true =>
        simp only [V_seq, V_skip, V_ret, V_region, V_cond, brW_true, brW_false, W_nil, W_cons, effOp2, KN_seq, KXr_nil, KXr_seq, QE, asB, effOp, effPure, effPick, effCall, giveUp, hasAll, pureV, pickV, binV, lenV, ofC, strip, lkT, lkH, ISt.app, opI, gO, gB, allB, gval, wrapG, dstOK, setD, lendV, lendP, lent, lentP, idsV, idsL, lkHS, flat, clean, callArgs, callFn, allLent, enumT, Gives, Ideal.Fin, conv, conv0, Op.operands, Call.operands, List.append_toArray, reduceIte, reduceCtorEq, cond_true, cond_false, Bool.or_false, Bool.or_true, Bool.not_true, Bool.not_false, Nat.reduceLT, Nat.reduceEqDiff, Nat.zero_add, ne_eq, not_false_eq_true, beq_self_eq_true, true_and, and_true, and_false, and_self, false_implies, implies_true, forall_const, List.map_cons, List.map_nil, List.nil_append, List.cons_append, List.append_nil, Option.bind_some, List.getElem?_cons_zero, List.getElem?_cons_succ, ex_clo, btf, or_true, or_self, Bool.true_eq_false, Bool.false_eq_true, tab4, tab22, tab23, hN, isPs_enc, toPs_enc, isBy_enc, toBy_enc, lk_laws_FnIsSimple_spec_DrawIsSimple, lk_laws_FnIsSimple_impl_IsSimple, lk_laws_FnIsSimple_spec_IsSimple, lk_laws_FnIsSimple_laws_near, sp_spec_DrawIsSimple, sp_impl_IsSimple, sp_spec_IsSimple, sp_laws_near, eb, ec, d1, d2, hsz, hl0, e1, d3]
        exact hb
      | false =>
        have hpos : 0 < l.length := by have := beq_eq_false_iff_ne.1 d3; omega
        cases hn : l.all nearB with
        | false =>
          simp only [V_seq, V_skip, V_ret, V_region, V_cond, brW_true, brW_false, W_nil, W_cons, effOp2, KN_seq, KXr_nil, KXr_seq, QE, asB, effOp, effPure, effPick, effCall, giveUp, hasAll, pureV, pickV, binV, lenV, ofC, strip, lkT, lkH, ISt.app, opI, gO, gB, allB, gval, wrapG, dstOK, setD, lendV, lendP, lent, lentP, idsV, idsL, lkHS, flat, clean, callArgs, callFn, allLent, enumT, Gives, Ideal.Fin, conv, conv0, Op.operands, Call.operands, List.append_toArray, reduceIte, reduceCtorEq, cond_true, cond_false, Bool.or_false, Bool.not_true, Bool.not_false, Nat.reduceLT, Nat.reduceEqDiff, Nat.zero_add, ne_eq, not_false_eq_true, beq_self_eq_true, true_and, and_true, and_self, implies_true, forall_const, List.map_cons, List.map_nil, List.nil_append, List.cons_append, List.append_nil, Option.bind_some, List.getElem?_cons_zero, List.getElem?_cons_succ, ex_clo, or_true, or_self, Bool.false_eq_true, tab4, tab22, tab23, hN, isPs_enc, toPs_enc, isBy_enc, toBy_enc, lk_laws_FnIsSimple_spec_DrawIsSimple, lk_laws_FnIsSimple_impl_IsSimple, lk_laws_FnIsSimple_spec_IsSimple, lk_laws_FnIsSimple_laws_near, sp_spec_DrawIsSimple, sp_impl_IsSimple, sp_spec_IsSimple, sp_laws_near, eb, ec, d1, d2, hsz, hl0, e1, d3, hn]
          exact hb
        | true =>
          obtain ⟨k, hk0⟩ : ∃ k, c.length % l.length = k := ⟨_, rfl⟩
          have hkl : k < l.length := by have := Nat.mod_lt c.length hpos; omega
          have t1 : (c.length : Int).tmod (l.length : Int) = (k : Int) := by rw [Int.tmod_eq_emod_of_nonneg (by omega), ← hk0]; simp
          have tk : Int.toNat (k : Int) = k := Int.toNat_natCast k
          have f1 : simpB (l.drop k ++ l.take k) = simpB l := simp_rot hkl
          have f2 := simp_rev l
          have f3 := simp_mv hn (dx := 7) (dy := -3) (by omega) (by omega)
          have hm := near_sm hn
          have x1 : sm1 7 := by unfold sm1; omega
          have x2 : sm1 (-3) := by unfold sm1; omega
          have hz : l.length ≤ 1000000 := by omega
          have eD : (encPs (l.drop k)).length = l.length - k := by rw [len_encPs, List.length_drop]
          have eT : (encPs (l.take k)).length = k := by rw [len_encPs, List.length_take]; omega
          have y1 : l.length - k + k = l.length := by omega
          have y2 : (l.drop k).take (l.length - k) = l.drop k := List.take_of_length_le (by rw [List.length_drop]; exact Nat.le_refl _)
          have y3 : (l.drop k ++ l.take k).take l.length = l.drop k ++ l.take k := List.take_of_length_le (by rw [List.length_append, List.length_drop, List.length_take]; omega)
          have y4 : (encPs (l.drop k ++ l.take k)).length = l.length := by rw [len_encPs, List.length_append, List.length_drop, List.length_take]; omega
          have d4 : ((l.length : Int) == 0) = false := d3
          simp only [V_seq, V_skip, V_ret, V_region, V_draw, V_cond, brW_false, drawW, WS_nil, pairsOf, W_nil, W_cons, effOp2, effOp3, WI_nil, WI_cons, KN_seq, KXr_nil, QE, dynOK, indB, farB, seeB, see, isStore, freshB, freshK, freshK1, ownId, heapy, asB, effOp, effPure, effPick, effNew, effBuildSlice, effFrz, frz, tmpsOf, effAppend, effZeros, effCall, giveUp, hasAll, Option.isSome_some, skipE, pureV, pickV, srcV, refId, binV, sliceV, lenV, ofC, strip, lkT, lkH, ISt.app, opI, gO, gB, allB, gval, wrapG, dstOK, setD, mentTm, mentHp, IV.ment, IV.mentL, partsL, eltsI, lendV, lendP, lent, lentP, idsV, idsL, lkHS, flat, clean, callArgs, callFn, allLent, enumT, Gives, Ideal.Fin, conv, conv0, Op.operands, Call.operands, List.append_toArray, Array.append_empty, Option.toArray_none, Option.toArray_some, reduceIte, reduceCtorEq, cond_true, cond_false, Bool.or_false, Bool.or_true, Bool.and_true, Bool.and_false, Bool.and_eq_true, Bool.not_true, Bool.not_false, Nat.reduceAdd, Nat.reduceMul, Nat.reduceLT, Nat.reduceLeDiff, Nat.reduceEqDiff, Nat.reduceBEq, Nat.zero_add, ne_eq, not_false_eq_true, beq_self_eq_true, true_and, and_true, and_self, implies_true, forall_const, List.map_cons, List.map_nil, List.nil_append, List.cons_append, List.append_nil, List.all_cons, List.all_nil, Option.map_some, Option.map_none, Option.bind_some, List.getElem?_cons_zero, List.getElem?_cons_succ, List.getD_cons_zero, List.getD_cons_succ, List.length_nil, List.take_zero, List.take_nil, List.drop_zero, ex_clo, or_true, or_self, Bool.true_eq_false, Bool.false_eq_true, tab4, tab22, tab23, tab30, hN, isPs_enc, toPs_enc, isBy_enc, toBy_enc, lk_laws_FnIsSimple_spec_DrawIsSimple, lk_laws_FnIsSimple_impl_IsSimple, lk_laws_FnIsSimple_spec_IsSimple, lk_laws_FnIsSimple_laws_near, lk_laws_FnIsSimple_laws_backwards, lk_laws_FnIsSimple_laws_moved, sp_spec_DrawIsSimple, sp_impl_IsSimple, sp_spec_IsSimple, sp_laws_near, sp_laws_backwards, sp_laws_moved, eb, ec, d1, d2, hsz, hl0, e1, d3, hn, t1, tk, encPs_drop, encPs_take, encPs_app, f1, f2, f3, hm, x1, x2, hz, eD, eT, y1, y2, y3, y4]
          exact ⟨hb, by omega, ⟨by omega, by omega⟩, by omega, ⟨by omega, by omega⟩, ⟨Nat.le_refl _, by omega⟩, Nat.le_refl _⟩
def sp_laws_FnIsSimple : PSpec := ⟨fun xs => match xs with | [.sl 1 bes, .sl 1 ces] => isBy bes ∧ isBy ces ∧ ((fun (b : List Int) (c : List Int) => ∀ x ∈ b, 0 ≤ x ∧ x < 256) (toIs bes) (toIs ces)) ∧ ((fun (b : List Int) (c : List Int) => ∀ x ∈ c, 0 ≤ x ∧ x < 256) (toIs bes) (toIs ces)) | _ => False, fun xs => match xs with | [.sl _ bes, .sl _ ces] => (fun (b : List Int) (c : List Int) => .bool true) (toIs bes) (toIs ces) | _ => .junk, false⟩
theorem gk_laws_FnIsSimple : ∀ args, sp_laws_FnIsSimple.pre args → ICall Try.prog 11 args (sp_laws_FnIsSimple.val args) := by
  intro args h
  unfold sp_laws_FnIsSimple at h ⊢; simp only at h ⊢; split at h
  · obtain ⟨h0, h1, h2, h3⟩ := h
    obtain ⟨l0, rfl⟩ := isBy_ex h0
    obtain ⟨l1, rfl⟩ := isBy_ex h1
    simp only [toBy_enc] at *
    exact c_laws_FnIsSimple _ _ h2 h3
  · exact h.elim
theorem en_laws_FnIsSimple : Enters Try.prog 11 := enters_of Try.func11 (by kernel_rfl) rfl

def g_laws_FnBoundaryCount : List (Nat × PSpec) := [(56, sp_spec_DrawBoundaryCount), (57, sp_impl_BoundaryCount), (58, sp_spec_BoundaryCount), (50, sp_laws_backwards)]
theorem gok_laws_FnBoundaryCount : GOK Try.prog g_laws_FnBoundaryCount := gok_cons gk_spec_DrawBoundaryCount en_spec_DrawBoundaryCount (gok_cons gk_impl_BoundaryCount en_impl_BoundaryCount (gok_cons gk_spec_BoundaryCount en_spec_BoundaryCount (gok_cons gk_laws_backwards en_laws_backwards (gok0))))
theorem lk_laws_FnBoundaryCount_spec_DrawBoundaryCount : lkG g_laws_FnBoundaryCount 56 = sp_spec_DrawBoundaryCount := rfl
theorem lk_laws_FnBoundaryCount_impl_BoundaryCount : lkG g_laws_FnBoundaryCount 57 = sp_impl_BoundaryCount := rfl
theorem lk_laws_FnBoundaryCount_spec_BoundaryCount : lkG g_laws_FnBoundaryCount 58 = sp_spec_BoundaryCount := rfl
theorem lk_laws_FnBoundaryCount_laws_backwards : lkG g_laws_FnBoundaryCount 50 = sp_laws_backwards := rfl
def h_laws_FnBoundaryCount : List (Nat × HSpec) := []
theorem hok_laws_FnBoundaryCount : HOK Try.prog h_laws_FnBoundaryCount := hok0
theorem c_laws_FnBoundaryCount (b : List Int) (c : List Int) (hb : ∀ x ∈ b, 0 ≤ x ∧ x < 256) (hc : ∀ x ∈ c, 0 ≤ x ∧ x < 256) : ICall Try.prog 12 [.sl 1 (encBy b), .sl 1 (encBy c)] (.bool true) := by
  refine icall_V (G := g_laws_FnBoundaryCount) (H := []) [(8, [(0, 6), (1, 6), (2, 6), (3, 6), (0, 7), (1, 7), (2, 7), (3, 7), (5, 7), (6, 8), (7, 8), (6, 9), (6, 10), (7, 10), (6, 11), (0, 12), (1, 12), (2, 12), (3, 12), (4, 12), (5, 12), (6, 12), (7, 12), (8, 12), (9, 12), (10, 12), (6, 13), (7, 13), (12, 13), (6, 14), (7, 14), (12, 14), (6, 15), (7, 15), (12, 15), (0, 16), (1, 16), (2, 16), (3, 16), (4, 16), (5, 16), (6, 16), (7, 16), (8, 16), (9, 16), (10, 16), (13, 16), (14, 16), (6, 17), (7, 17), (12, 17), (16, 17), (6, 18), (7, 18), (12, 18), (16, 18), (6, 19), (7, 19), (12, 19), (16, 19), (0, 20), (1, 20), (2, 20), (3, 20), (4, 20), (5, 20), (6, 20), (7, 20), (8, 20), (9, 20), (10, 20), (12, 20), (13, 20), (14, 20), (15, 20), (17, 20), (18, 20), (0, 21), (1, 21), (2, 21), (3, 21), (4, 21), (5, 21), (6, 21), (7, 21), (8, 21), (9, 21), (10, 21), (12, 21), (13, 21), (14, 21), (15, 21), (16, 21), (17, 21), (18, 21), (19, 21), (6, 22), (7, 22), (12, 22), (16, 22), (20, 22), (21, 22), (6, 23), (7, 23), (12, 23), (16, 23), (20, 23), (6, 24), (7, 24), (12, 24), (16, 24), (20, 24), (21, 24)])] tabOK mixed gok_laws_FnBoundaryCount hok_laws_FnBoundaryCount Try.func12 rfl Try.ntmps12 Try.results12 rfl (by kernel_rfl) fun F hN hlen => ?_
  have eb := len_encBy b
  have ec := len_encBy c
  have bb : ∀ x : Int, (x != x) = false := fun x => by simp
  have bb2 : ∀ x : Int, (x == x) = true := fun x => by simp
  cases d1 : decide (1048576 < (b.length : Int)) with
  | true => simp only [V_seq, V_ret, V_region, V_cond, brW_true, W_nil, W_cons, effOp2, KN_seq, KXr_nil, KXr_seq, QE, asB, effOp, effPure, effPick, pureV, pickV, binV, lenV, ofC, strip, lkT, lkH, ISt.app, opI, gO, gB, allB, gval, wrapG, dstOK, setD, clean, enumT, Gives, Ideal.Fin, conv, conv0, Op.operands, Call.operands, List.append_toArray, reduceIte, reduceCtorEq, cond_true, Nat.reduceLT, Nat.reduceEqDiff, Nat.zero_add, ne_eq, not_false_eq_true, and_true, and_self, false_implies, implies_true, List.nil_append, List.cons_append, List.append_nil, Option.bind_some, List.getElem?_cons_zero, List.getElem?_cons_succ, btf, Bool.true_eq_false, Bool.false_eq_true, tab22, hN, eb, d1]
  | false =>
    cases d2 : decide (1048576 < (c.length : Int)) with
    | true => simp only [V_seq, V_ret, V_region, V_cond, brW_true, W_nil, W_cons, effOp2, KN_seq, KXr_nil, KXr_seq, QE, asB, effOp, effPure, effPick, pureV, pickV, binV, lenV, ofC, strip, lkT, lkH, ISt.app, opI, gO, gB, allB, gval, wrapG, dstOK, setD, clean, enumT, Gives, Ideal.Fin, conv, conv0, Op.operands, Call.operands, List.append_toArray, reduceIte, reduceCtorEq, cond_false, Nat.reduceLT, Nat.reduceEqDiff, Nat.zero_add, ne_eq, not_false_eq_true, beq_self_eq_true, and_self, implies_true, List.nil_append, List.cons_append, List.append_nil, Option.bind_some, List.getElem?_cons_zero, List.getElem?_cons_succ, Bool.false_eq_true, tab22, hN, eb, ec, d1, d2]
    | false =>
      have hsz : b.length ≤ 1048576 := by simp at d1; omega
      have hsc : c.length ≤ 1048576 := by simp at d2; omega
      have hl := drawPoly_len hb
      obtain ⟨l, hl0⟩ : ∃ l, drawPoly b = l := ⟨_, rfl⟩
      rw [hl0] at hl
      have e1 := len_encPs l
      cases hs : simpB l with
      | false =>
        have hv : bcP l = -1 := by rw [bcP, hs]; rfl
        have d3 : decide ((-1 : Int) < 0) = true := rfl
        simp only [V_seq, V_skip, V_ret, V_region, V_cond, brW_true, brW_false, W_nil, W_cons, effOp2, KN_seq, KXr_nil, KXr_seq, QE, asB, effOp, effPure, effPick, effCall, giveUp, hasAll, pureV, pickV, binV, lenV, ofC, strip, lkT, lkH, ISt.app, opI, gO, gB, allB, gval, wrapG, dstOK, setD, lendV, lendP, lent, lentP, idsV, idsL, lkHS, flat, clean, callArgs, callFn, allLent, enumT, Gives, Ideal.Fin, conv, conv0, Op.operands, Call.operands, List.append_toArray, reduceIte, reduceCtorEq, cond_true, cond_false, Bool.or_false, Bool.not_true, Nat.reduceLT, Nat.reduceEqDiff, Nat.zero_add, ne_eq, not_false_eq_true, beq_self_eq_true, true_and, and_true, and_self, implies_true, forall_const, List.map_cons, List.map_nil, List.nil_append, List.cons_append, List.append_nil, Option.bind_some, List.getElem?_cons_zero, List.getElem?_cons_succ, ex_clo, or_true, or_self, Bool.false_eq_true, tab22, hN, isPs_enc, toPs_enc, isBy_enc, toBy_enc, lk_laws_FnBoundaryCount_spec_DrawBoundaryCount, lk_laws_FnBoundaryCount_impl_BoundaryCount, lk_laws_FnBoundaryCount_spec_BoundaryCount, sp_spec_DrawBoundaryCount, sp_impl_BoundaryCount, sp_spec_BoundaryCount, eb, ec, d1, d2, hsz, hl0, hv, d3, bb]
        exact hb
      | true =>
        obtain ⟨g1, g2⟩ := bc_ge hs
        have hpos : 0 < l.length := by omega
        have d3 : decide (bcP l < 0) = false := decide_eq_false (by omega)
        have d4 : decide ((l.length : Int) ≤ bcP l) = true := decide_eq_true g1
        have d5 : ((l.length : Int) == 0) = false := by rw [beq_eq_false_iff_ne]; omega
        obtain ⟨k, hk0⟩ : ∃ k, c.length % l.length = k := ⟨_, rfl⟩
        have hkl : k < l.length := by have := Nat.mod_lt c.length hpos; omega
        have t1 : (c.length : Int).tmod (l.length : Int) = (k : Int) := by rw [Int.tmod_eq_emod_of_nonneg (by omega), ← hk0]; simp
        have tk : Int.toNat (k : Int) = k := Int.toNat_natCast k
        have f1 : bcP (l.drop k ++ l.take k) = bcP l := bc_rot hkl
        have f2 := bc_rev l
        have hz : l.length ≤ 1000000 := by omega
        have eD : (encPs (l.drop k)).length = l.length - k := by rw [len_encPs, List.length_drop]
        have eT : (encPs (l.take k)).length = k := by rw [len_encPs, List.length_take]; omega
        have y1 : l.length - k + k = l.length := by omega
        have y2 : (l.drop k).take (l.length - k) = l.drop k := List.take_of_length_le (by rw [List.length_drop]; exact Nat.le_refl _)
        have y3 : (l.drop k ++ l.take k).take l.length = l.drop k ++ l.take k := List.take_of_length_le (by rw [List.length_append, List.length_drop, List.length_take]; omega)
        have y4 : (encPs (l.drop k ++ l.take k)).length = l.length := by rw [len_encPs, List.length_append, List.length_drop, List.length_take]; omega
        obtain ⟨n, hn⟩ : ∃ n, bcP l = n := ⟨_, rfl⟩
        rw [hn] at d3 d4 f1 f2
        simp only [V_seq, V_skip, V_ret, V_region, V_draw, V_cond, brW_false, drawW, WS_nil, pairsOf, W_nil, W_cons, effOp2, effOp3, WI_nil, WI_cons, KN_seq, KXr_nil, QE, dynOK, indB, farB, seeB, see, isStore, freshB, freshK, freshK1, ownId, heapy, asB, effOp, effPure, effPick, effNew, effBuildSlice, effFrz, frz, tmpsOf, effAppend, effZeros, effCall, giveUp, hasAll, Option.isSome_some, skipE, pureV, pickV, srcV, refId, binV, sliceV, lenV, ofC, strip, lkT, lkH, ISt.app, opI, gO, gB, allB, gval, wrapG, dstOK, setD, mentTm, mentHp, IV.ment, IV.mentL, partsL, eltsI, lendV, lendP, lent, lentP, idsV, idsL, lkHS, flat, clean, callArgs, callFn, allLent, enumT, Gives, Ideal.Fin, conv, conv0, Op.operands, Call.operands, List.append_toArray, Array.append_empty, Option.toArray_none, Option.toArray_some, reduceIte, reduceCtorEq, cond_true, cond_false, Bool.or_false, Bool.or_true, Bool.and_true, Bool.and_false, Bool.and_eq_true, Bool.not_true, Bool.not_false, Nat.reduceAdd, Nat.reduceMul, Nat.reduceLT, Nat.reduceLeDiff, Nat.reduceEqDiff, Nat.reduceBEq, Nat.zero_add, ne_eq, not_false_eq_true, beq_self_eq_true, true_and, and_true, and_self, implies_true, forall_const, List.map_cons, List.map_nil, List.nil_append, List.cons_append, List.append_nil, List.all_cons, List.all_nil, Option.map_some, Option.map_none, Option.bind_some, List.getElem?_cons_zero, List.getElem?_cons_succ, List.getD_cons_zero, List.getD_cons_succ, List.length_nil, List.take_zero, List.take_nil, List.drop_zero, ex_clo, or_true, or_self, Bool.true_eq_false, Bool.false_eq_true, tab22, tab23, tab30, hN, isPs_enc, toPs_enc, isBy_enc, toBy_enc, lk_laws_FnBoundaryCount_spec_DrawBoundaryCount, lk_laws_FnBoundaryCount_impl_BoundaryCount, lk_laws_FnBoundaryCount_spec_BoundaryCount, lk_laws_FnBoundaryCount_laws_backwards, sp_spec_DrawBoundaryCount, sp_impl_BoundaryCount, sp_spec_BoundaryCount, sp_laws_backwards, eb, ec, d1, d2, hsz, hl0, e1, d3, d4, hn, bb, t1, tk, encPs_drop, encPs_take, encPs_app, f1, f2, hz, eD, eT, y1, y2, y3, y4]
        exact ⟨hb, by omega, ⟨by omega, by omega⟩, by omega, ⟨by omega, by omega⟩, ⟨Nat.le_refl _, by omega⟩, Nat.le_refl _⟩
def sp_laws_FnBoundaryCount : PSpec := ⟨fun xs => match xs with | [.sl 1 bes, .sl 1 ces] => isBy bes ∧ isBy ces ∧ ((fun (b : List Int) (c : List Int) => ∀ x ∈ b, 0 ≤ x ∧ x < 256) (toIs bes) (toIs ces)) ∧ ((fun (b : List Int) (c : List Int) => ∀ x ∈ c, 0 ≤ x ∧ x < 256) (toIs bes) (toIs ces)) | _ => False, fun xs => match xs with | [.sl _ bes, .sl _ ces] => (fun (b : List Int) (c : List Int) => .bool true) (toIs bes) (toIs ces) | _ => .junk, false⟩
theorem gk_laws_FnBoundaryCount : ∀ args, sp_laws_FnBoundaryCount.pre args → ICall Try.prog 12 args (sp_laws_FnBoundaryCount.val args) := by
  intro args h
  unfold sp_laws_FnBoundaryCount at h ⊢; simp only at h ⊢; split at h
  · obtain ⟨h0, h1, h2, h3⟩ := h
    obtain ⟨l0, rfl⟩ := isBy_ex h0
    obtain ⟨l1, rfl⟩ := isBy_ex h1
    simp only [toBy_enc] at *
    exact c_laws_FnBoundaryCount _ _ h2 h3
  · exact h.elim
theorem en_laws_FnBoundaryCount : Enters Try.prog 12 := enters_of Try.func12 (by kernel_rfl) rfl

end Go.Proofs.Ytemppebemahkoaa
