/- Drawn drawings; the law on drawings: the walk. -/
import Derived.Test.YtemppebemahkoaaB79
import Derived.Test.YtemppebemahkoaaB44a
import Derived.Test.YtemppebemahkoaaB68
import Derived.Test.YtemppebemahkoaaBQ
set_option linter.unusedVariables false
set_option linter.unusedSimpArgs false
set_option maxHeartbeats 1600000
set_option maxRecDepth 100000
namespace Go.Proofs.Ytemppebemahkoaa
open Go Go.Ideal Go.Pl Go.Sort

theorem dr_no2 {l : List Qd} (h : drB l = true) : okSs l = true ∧ ∀ i j : Nat, i < j → j < l.length → badS (qAt l i) (qAt l j) = false ∧ (relP (qAt l i) (qAt l j) == 2) = false := by
  simp only [drB, Bool.and_eq_true, Bool.not_eq_true'] at h
  refine ⟨h.1, fun i j h1 h2 => ?_⟩
  have hb := dr_any.1 h.2 i j h1 h2
  refine ⟨hb, ?_⟩
  rw [badS] at hb
  rw [beq_eq_false_iff_ne]
  intro e
  rw [e] at hb
  cases hb
theorem dr_take {l : List Qd} (h : drB l = true) (k : Nat) : drB (l.take k) = true := by
  obtain ⟨h1, h2⟩ := dr_no2 h
  have ho : okSs (l.take k) = true := by
    simp only [okSs, Bool.and_eq_true, List.all_eq_true, decide_eq_true_eq] at h1 ⊢
    exact ⟨fun x hx => h1.1 x (List.mem_of_mem_take hx), by rw [List.length_take]; omega⟩
  have ha : ∀ i, i < (l.take k).length → qAt (l.take k) i = qAt l i := fun i hi => by
    rw [List.length_take] at hi
    simp only [qAt, List.getD]
    rw [List.getElem?_take_of_lt (by omega)]
  rw [drB, ho, dr_any.2 (fun i j h3 h4 => ?_)]
  · rfl
  · rw [ha i (by omega), ha j h4]
    rw [List.length_take] at h4
    exact (h2 i j h3 (by omega)).1
theorem prs_atD {n i : Nat} (h : i < (prs n n).length) : ∃ a b : Nat, a < b ∧ b < n ∧ pAt (prs n n) i = ((a : Int), (b : Int)) := prs_mem (Nat.le_refl _) (by rw [pAt, List.getD, List.getElem?_eq_getElem h]; exact List.getElem_mem h)
def g_e_crsn : List (Nat × PSpec) := [(129, sp_impl_segmentsOk), (131, sp_impl_pairs), (134, sp_impl_relation)]
theorem gok_e_crsn : GOK Try.prog g_e_crsn := gok_cons gk_impl_segmentsOk en_impl_segmentsOk (gok_cons gk_impl_pairs en_impl_pairs (gok_cons gk_impl_relation en_impl_relation (gok0)))
theorem lk_e_crsn_impl_segmentsOk : lkG g_e_crsn 129 = sp_impl_segmentsOk := rfl
theorem lk_e_crsn_impl_pairs : lkG g_e_crsn 131 = sp_impl_pairs := rfl
theorem lk_e_crsn_impl_relation : lkG g_e_crsn 134 = sp_impl_relation := rfl
def h_e_crsn : List (Nat × HSpec) := [(140, hs_slices_SortFunc_impl_RatPoint_impl_RatPoint), (143, hs_slices_Compact_impl_RatPoint_impl_RatPoint), (142, hs_slices_Clip_impl_RatPoint_impl_RatPoint)]
theorem hok_e_crsn : HOK Try.prog h_e_crsn := hok_cons hk_slices_SortFunc_impl_RatPoint_impl_RatPoint en_slices_SortFunc_impl_RatPoint_impl_RatPoint (hok_cons hk_slices_Compact_impl_RatPoint_impl_RatPoint en_slices_Compact_impl_RatPoint_impl_RatPoint (hok_cons hk_slices_Clip_impl_RatPoint_impl_RatPoint en_slices_Clip_impl_RatPoint_impl_RatPoint (hok0)))
theorem lh_e_crsn_impl_segmentsOk : lkHS h_e_crsn 129 = none := rfl
theorem lh_e_crsn_impl_pairs : lkHS h_e_crsn 131 = none := rfl
theorem lh_e_crsn_impl_relation : lkHS h_e_crsn 134 = none := rfl
theorem lh_e_crsn_slices_SortFunc_impl_RatPoint_impl_RatPoint : lkHS h_e_crsn 140 = some hs_slices_SortFunc_impl_RatPoint_impl_RatPoint := rfl
theorem lh_e_crsn_slices_Compact_impl_RatPoint_impl_RatPoint : lkHS h_e_crsn 143 = some hs_slices_Compact_impl_RatPoint_impl_RatPoint := rfl
theorem lh_e_crsn_slices_Clip_impl_RatPoint_impl_RatPoint : lkHS h_e_crsn 142 = some hs_slices_Clip_impl_RatPoint_impl_RatPoint := rfl
def g_impl_CrossingPoints_n : List (Nat × PSpec) := [(129, sp_impl_segmentsOk), (131, sp_impl_pairs), (134, sp_impl_relation)]
theorem gok_impl_CrossingPoints_n : GOK Try.prog g_impl_CrossingPoints_n := gok_cons gk_impl_segmentsOk en_impl_segmentsOk (gok_cons gk_impl_pairs en_impl_pairs (gok_cons gk_impl_relation en_impl_relation (gok0)))
theorem lk_impl_CrossingPoints_n_impl_segmentsOk : lkG g_impl_CrossingPoints_n 129 = sp_impl_segmentsOk := rfl
theorem lk_impl_CrossingPoints_n_impl_pairs : lkG g_impl_CrossingPoints_n 131 = sp_impl_pairs := rfl
theorem lk_impl_CrossingPoints_n_impl_relation : lkG g_impl_CrossingPoints_n 134 = sp_impl_relation := rfl
def h_impl_CrossingPoints_n : List (Nat × HSpec) := [(140, hs_slices_SortFunc_impl_RatPoint_impl_RatPoint), (143, hs_slices_Compact_impl_RatPoint_impl_RatPoint), (142, hs_slices_Clip_impl_RatPoint_impl_RatPoint)]
theorem hok_impl_CrossingPoints_n : HOK Try.prog h_impl_CrossingPoints_n := hok_cons hk_slices_SortFunc_impl_RatPoint_impl_RatPoint en_slices_SortFunc_impl_RatPoint_impl_RatPoint (hok_cons hk_slices_Compact_impl_RatPoint_impl_RatPoint en_slices_Compact_impl_RatPoint_impl_RatPoint (hok_cons hk_slices_Clip_impl_RatPoint_impl_RatPoint en_slices_Clip_impl_RatPoint_impl_RatPoint (hok0)))
theorem lh_impl_CrossingPoints_n_impl_segmentsOk : lkHS h_impl_CrossingPoints_n 129 = none := rfl
theorem lh_impl_CrossingPoints_n_impl_pairs : lkHS h_impl_CrossingPoints_n 131 = none := rfl
theorem lh_impl_CrossingPoints_n_impl_relation : lkHS h_impl_CrossingPoints_n 134 = none := rfl
theorem lh_impl_CrossingPoints_n_slices_SortFunc_impl_RatPoint_impl_RatPoint : lkHS h_impl_CrossingPoints_n 140 = some hs_slices_SortFunc_impl_RatPoint_impl_RatPoint := rfl
theorem lh_impl_CrossingPoints_n_slices_Compact_impl_RatPoint_impl_RatPoint : lkHS h_impl_CrossingPoints_n 143 = some hs_slices_Compact_impl_RatPoint_impl_RatPoint := rfl
theorem lh_impl_CrossingPoints_n_slices_Clip_impl_RatPoint_impl_RatPoint : lkHS h_impl_CrossingPoints_n 142 = some hs_slices_Clip_impl_RatPoint_impl_RatPoint := rfl
theorem c_impl_CrossingPoints_n (l : List Qd) (hs : okSs l = true) (hr : ∀ i j : Nat, i < j → j < l.length → (relP (qAt l i) (qAt l j) == 2) = false) : ICall Try.prog 62 [.sl 4 (encQs l)] (.sl 4 []) := by
  refine icall_V (G := g_e_crsn) (H := h_e_crsn) [(7, [(0, 10), (1, 10), (2, 10), (3, 10), (5, 10), (6, 10), (7, 10), (8, 10)]), (8, [(0, 11), (1, 11), (2, 11), (3, 11), (4, 11), (6, 11), (7, 11), (8, 11), (9, 11), (0, 12), (1, 12), (2, 12), (3, 12), (4, 12), (5, 12), (6, 12), (7, 12), (8, 12), (9, 12), (10, 12), (1, 13), (2, 13), (3, 13), (4, 13), (5, 13), (6, 13), (7, 13), (8, 13), (9, 13), (10, 13)])] tabOK mixed gok_e_crsn hok_e_crsn Try.func62 rfl Try.ntmps62 Try.results62 rfl (by kernel_rfl) fun F hN hlen => ?_
  have el := len_encQs l
  have h12 := okSs_len hs
  have hpl := prs_len l.length l.length
  have hpl2 : l.length * l.length ≤ 12 * 12 := Nat.mul_le_mul h12 h12
  have hat := @prs_atD l.length
  obtain ⟨ps, hps⟩ : ∃ ps, prs l.length l.length = ps := ⟨_, rfl⟩
  rw [hps] at hpl hat
  have ep := len_encPs ps
  have z1 : (0 : Int) ≤ (l.length : Int) := by omega
  have z2 : (l.length : Int) ≤ 1000 := by omega
  simp only [V_seq, V_skip, V_block, V_region, V_cond, brW_false, W_nil, W_cons, effOp2, KN_seq, asB, effOp, effPure, effNew, effBuildSlice, effFrz, frz, tmpsOf, effCall, giveUp, hasAll, skipE, pureV, lenV, ofC, strip, lkT, lkH, ISt.app, opI, gO, gB, allB, gval, wrapG, dstOK, setD, mentTm, mentHp, IV.ment, partsL, eltsI, lendV, lendP, lent, lentP, idsV, idsL, flat, clean, callArgs, callFn, allLent, enumT, Op.operands, Call.operands, List.append_toArray, reduceIte, reduceCtorEq, cond_true, cond_false, Bool.or_false, Bool.not_true, Nat.reduceMul, Nat.reduceLT, Nat.reduceLeDiff, Nat.reduceEqDiff, ne_eq, not_false_eq_true, true_and, and_self, implies_true, List.map_cons, List.map_nil, List.nil_append, List.cons_append, List.append_nil, List.length_nil, ex_clo, or_true, or_self, Bool.false_eq_true, tab51, tab60, tab73, tab77, hN, Int.toNat_natCast, isQs_enc, toQs_enc, lk_e_crsn_impl_segmentsOk, lk_e_crsn_impl_pairs, sp_impl_segmentsOk, sp_impl_pairs, lh_e_crsn_impl_segmentsOk, lh_e_crsn_impl_pairs, hs, el, z1, z2, hps, ep, Int.toNat_natCast]
  refine V_loop (α := Nat) ⟨tabOK, mixed, gok_e_crsn, hok_e_crsn⟩ (by kernel_rfl) (fun i => i ≤ ps.length) (fun i => ⟨[(14, .num .i64 i), (13, .num .i64 ps.length), (12, .sl 2 (encPs ps)), (3, .ref 9 0 0 true), (0, .sl 4 (encQs l))], [(9, some (.arr 4 60 []))]⟩) (fun i => ps.length - i) 0 id (Nat.zero_le _) (by simp [SLe, SLe0, convTm, convHp, convB, conv, conv0, lkT, lkH, clean]) ?_
  intro i hi
  simp only [V_seq, V_region, V_cond, W_nil, W_cons, effOp2, KN_seq, asB, effOp, effPure, pureV, binV, strip, lkT, ISt.app, opI, gO, gB, allB, gval, wrapG, dstOK, setD, Op.operands, reduceIte, reduceCtorEq, Nat.reduceLT, Nat.reduceEqDiff, true_and, and_self, implies_true, List.nil_append, List.cons_append, hN]
  refine brW_some (fun h => ?_) (fun h => ?_)
  · have hi' : i < ps.length := by simpa using h
    have hw := wr_succ hi' (by rw [maxLen_eq]; omega)
    have g0 := getD_encPs hi'
    obtain ⟨a, b, hab, hb, hpa⟩ := hat hi'
    rw [hpa] at g0
    have ga := getD_encQs (l := l) (i := a) (by omega)
    have gb := getD_encQs hb
    have va := okSs_at hs (show a < l.length by omega)
    have vb := okSs_at hs hb
    have hr2 := hr a b hab hb
    obtain ⟨sma, _, _, na⟩ := vSg_facts va
    obtain ⟨smb, _, _, nb⟩ := vSg_facts vb
    obtain ⟨s, hsa⟩ : ∃ s, qAt l a = s := ⟨_, rfl⟩
    obtain ⟨t, htb⟩ : ∃ t, qAt l b = t := ⟨_, rfl⟩
    rw [hsa] at ga va sma na hr2
    rw [htb] at gb vb smb nb hr2
    simp only [V_seq, V_skip, V_block, V_region, V_draw, V_cond, brW_false, drawW, WS_nil, pairsOf, W_nil, W_cons, effOp2, effOp3, WI_nil, WI_cons, KN_seq, KN_block, KN_back, dynOK, indB, farB, freshB, freshK, freshK1, heapy, asB, effOp, effPure, effNew, effAlloc, effStore, effCall, giveUp, hasAll, skipE, pureV, storeV, binV, partV, eltV, loadV, faddrV, iaddrV, over, solid, IV.cells, ofC, strip, lkT, lkH, ISt.app, opI, gO, gB, allB, gval, wrapG, dstOK, setD, mentTm, mentHp, IV.ment, IV.mentL, oneI, lendV, lendP, lent, lentP, idsV, idsL, flat, clean, callArgs, callFn, allLent, IBlk.shape, Op.operands, Call.operands, List.append_toArray, reduceIte, reduceCtorEq, cond_true, cond_false, Bool.or_false, Bool.and_true, Bool.and_eq_true, Bool.not_true, Bool.not_false, Nat.reduceAdd, Nat.reduceLT, Nat.reduceLeDiff, Nat.reduceEqDiff, Nat.reduceBEq, Nat.add_zero, Nat.zero_add, ne_eq, not_false_eq_true, true_and, and_true, and_false, and_self, implies_true, forall_const, List.map_cons, List.map_nil, List.nil_append, List.cons_append, List.append_nil, List.all_cons, List.all_nil, Option.map_some, List.getD_cons_zero, List.getD_cons_succ, List.length_cons, List.length_nil, List.take_succ_cons, List.take_zero, List.take_nil, List.drop_succ_cons, List.drop_zero, List.drop_nil, ex_clo, or_self, tab3, tab68, tab73, tab77, tab122, hN, pe, Int.toNat_natCast, lk_e_crsn_impl_relation, sp_impl_relation, lh_e_crsn_impl_relation, el, ep, hw, g0, ga, gb, sma, smb, na, nb, hr2, Int.toNat_natCast]
    exact ⟨⟨by omega, by omega⟩, ⟨by omega, by omega⟩, ⟨by omega, by omega⟩, i + 1, id, by simp only []; omega, by simp only []; omega, by simp [SLe, SLe0, convTm, convHp, convB, conv, conv0, lkT, lkH, clean]⟩
  · have hie : i = ps.length := by simp at h; omega
    subst hie
    have e0 : encQs [] = [] := rfl
    have i0 : isQs ([] : List IV) = True := isQs_enc []
    have t0 : toQs ([] : List IV) = [] := rfl
    have s0 : sortQ [] = [] := by simp [sortQ, subQ, offG]
    have c0 : compFQ [] = [] := rfl
    simp only [V_seq, V_ret, V_exit, V_region, W_nil, W_cons, effOp2, KN_seq, KXr_nil, KXe_nil, KXe_seq, KXe_block, KXe_back, QE, effOp, effPure, Option.isSome_some, skipE, pureV, strip, lkT, lkH, ISt.app, opI, gO, gB, allB, gval, wrapG, dstOK, setD, mentTm, mentHp, IV.ment, IV.mentL, idsV, idsL, callArgs, callFn, enumT, Gives, Ideal.Fin, conv, conv0, convL, IBlk.shape, Op.operands, reduceIte, reduceCtorEq, cond_true, cond_false, Bool.or_false, Bool.or_true, Bool.and_true, Nat.reduceAdd, Nat.reduceSub, Nat.reduceMul, Nat.reduceLT, Nat.reduceLeDiff, Nat.reduceEqDiff, Nat.add_zero, Nat.zero_add, ne_eq, not_false_eq_true, beq_self_eq_true, true_and, and_true, and_false, and_self, false_implies, implies_true, List.map_cons, List.map_nil, List.nil_append, List.cons_append, List.append_nil, List.all_nil, Option.some.injEq, Option.map_some, List.getD_cons_zero, List.length_nil, List.take_zero, List.take_nil, List.drop_zero, ex_clo, or_self, Bool.true_eq_false, Bool.false_eq_true, hN, SLe0, convTm, convHp, convB, sm, effH, mkHC0, mkHC1, lendM, lentM, lentI, allHere, addIds, idsB, flatIds, reach, posn, renV, renL, renB, renH, numB, subHp, fwd, bk, bwd, nones, keyOK, noSl, noSlL, flatBs, List.contains, List.elem, Option.isSome_some, Option.isSome_none, List.nodup_nil, List.nodup_cons, List.not_mem_nil, Option.getD_some, lh_e_crsn_slices_SortFunc_impl_RatPoint_impl_RatPoint, lh_e_crsn_slices_Compact_impl_RatPoint_impl_RatPoint, lh_e_crsn_slices_Clip_impl_RatPoint_impl_RatPoint, hs_slices_SortFunc_impl_RatPoint_impl_RatPoint, hs_slices_Compact_impl_RatPoint_impl_RatPoint, hs_slices_Clip_impl_RatPoint_impl_RatPoint, e0, i0, t0, s0, c0]
    exact ⟨_, _, rfl, Nat.zero_le _⟩
def sp_impl_CrossingPoints_n : PSpec := ⟨fun xs => match xs with | [.sl 4 les] => isQs les ∧ ((fun (l : List Qd) => okSs l = true) (toQs les)) ∧ ((fun (l : List Qd) => ∀ i j : Nat, i < j → j < l.length → (relP (qAt l i) (qAt l j) == 2) = false) (toQs les)) | _ => False, fun xs => match xs with | [.sl _ les] => (fun (l : List Qd) => .sl 4 []) (toQs les) | _ => .junk, false⟩
theorem gk_impl_CrossingPoints_n : ∀ args, sp_impl_CrossingPoints_n.pre args → ICall Try.prog 62 args (sp_impl_CrossingPoints_n.val args) := by
  intro args h
  unfold sp_impl_CrossingPoints_n at h ⊢; simp only at h ⊢; split at h
  · obtain ⟨h0, h1, h2⟩ := h
    obtain ⟨l0, rfl⟩ := isQ_ex h0
    simp only [toQs_enc] at *
    exact c_impl_CrossingPoints_n _ h1 h2
  · exact h.elim
theorem en_impl_CrossingPoints_n : Enters Try.prog 62 := enters_of Try.func62 (by kernel_rfl) rfl

def drDr (b : List Int) : List Qd := if pickI b 0 2 = 0 then edgesP (sShp b 1) else (aSegs b 1).1
/-- The segments that a code draws for a drawing. -/
def drawDr (b : List Int) : List Qd := drDr (b.take 2000)
theorem sgNum_le {b : List Int} (hb : BytesOK b) {p : Nat} (hp : p ≤ 1000000) : sgNum b p ≤ 13 := by
  have h1 := pick_nonneg hb (show p ≤ 1000000000 by omega) 7
  have h2 := h1.2.1 (by omega)
  rw [sgNum]
  obtain ⟨k, hk⟩ : ∃ k, (pickI b p 7).toNat = k := ⟨_, rfl⟩
  have hk8 : k < 7 := by omega
  rw [hk]
  match k, hk8 with
  | 0, _ | 1, _ | 2, _ | 3, _ | 4, _ | 5, _ | 6, _ => decide
theorem aSegs_len {b : List Int} (hb : BytesOK b) {p : Nat} (hp : p ≤ 1000000) : (aSegs b p).1.length ≤ 13 := by
  have h := sgNum_le hb hp
  have h2 := (sgLoop_bd b (p + 1) (sgNum b p)).1
  unfold aSegs
  split
  · omega
  · split
    · simp only [List.length_set]; omega
    · simp only []; omega
theorem drawDr_len {b : List Int} (hb : ∀ x ∈ b, 0 ≤ x ∧ x < 256) : (drawDr b).length ≤ 13 := by
  have hbt := bytes_take hb
  unfold drawDr drDr
  split
  · have := sShp_len hbt (show 1 ≤ 1000000 by omega)
    rw [edgesP, edgesN_len]; omega
  · exact aSegs_len hbt (by omega)
def g_spec_DrawIsDrawing : List (Nat × PSpec) := [(127, sp_spec_edgeOf)]
theorem gok_spec_DrawIsDrawing : GOK Try.prog g_spec_DrawIsDrawing := gok_cons gk_spec_edgeOf en_spec_edgeOf (gok0)
theorem lk_spec_DrawIsDrawing_spec_edgeOf : lkG g_spec_DrawIsDrawing 127 = sp_spec_edgeOf := rfl
def h_spec_DrawIsDrawing : List (Nat × HSpec) := [(65, hs_spec_newReader), (89, hs_spec_reader_pick), (126, hs_spec_someShape), (128, hs_spec_anySegments)]
theorem hok_spec_DrawIsDrawing : HOK Try.prog h_spec_DrawIsDrawing := hok_cons hk_spec_newReader en_spec_newReader (hok_cons hk_spec_reader_pick en_spec_reader_pick (hok_cons hk_spec_someShape en_spec_someShape (hok_cons hk_spec_anySegments en_spec_anySegments (hok0))))
theorem lh_spec_DrawIsDrawing_spec_edgeOf : lkHS h_spec_DrawIsDrawing 127 = none := rfl
theorem lh_spec_DrawIsDrawing_spec_newReader : lkHS h_spec_DrawIsDrawing 65 = some hs_spec_newReader := rfl
theorem lh_spec_DrawIsDrawing_spec_reader_pick : lkHS h_spec_DrawIsDrawing 89 = some hs_spec_reader_pick := rfl
theorem lh_spec_DrawIsDrawing_spec_someShape : lkHS h_spec_DrawIsDrawing 126 = some hs_spec_someShape := rfl
theorem lh_spec_DrawIsDrawing_spec_anySegments : lkHS h_spec_DrawIsDrawing 128 = some hs_spec_anySegments := rfl
theorem c_spec_DrawIsDrawing (b : List Int) (hb : ∀ x ∈ b, 0 ≤ x ∧ x < 256) (hsz : b.length ≤ 1048576) : ICall Try.prog 59 [.sl 1 (encBy b)] (.sl 4 (encQs (drawDr b))) := by
  refine icall_V (G := g_spec_DrawIsDrawing) (H := h_spec_DrawIsDrawing) [] tabOK mixed gok_spec_DrawIsDrawing hok_spec_DrawIsDrawing Try.func59 rfl Try.ntmps59 Try.results59 rfl (by kernel_rfl) fun F hN hlen => ?_
  have hbt := bytes_take hb
  have hd : drawDr b = if pickI (b.take 2000) 0 2 = 0 then edgesP (sShp (b.take 2000) 1) else (aSegs (b.take 2000) 1).1 := rfl
  have q1 : (1 : Nat) ≤ 800000 := by omega
  have q2 : (1 : Nat) ≤ 600000 := by omega
  by_cases c : pickI (b.take 2000) 0 2 = 0
  · have d1 : (pickI (b.take 2000) 0 2 == 0) = true := by simpa using c
    rw [if_pos c] at hd
    have hsl := sShp_len hbt (show 1 ≤ 1000000 by omega)
    obtain ⟨s, hs⟩ : ∃ s, sShp (b.take 2000) 1 = s := ⟨_, rfl⟩
    rw [hs] at hsl hd
    have es := len_encPs s
    have ts := take_encPs s
    have hz : s.length ≤ 1000000 := by omega
    simp only [V_seq, V_block, V_region, V_cond, brW_true, W_nil, W_cons, effOp2, KN_seq, asB, effOp, effPure, effNew, effBuildSlice, effFrz, frz, tmpsOf, Option.isSome_some, skipE, pureV, binV, ofC, strip, lkT, lkH, ISt.app, opI, gO, gB, allB, gval, wrapG, dstOK, setD, mentTm, mentHp, IV.ment, IV.mentL, partsL, eltsI, lendV, lendP, lent, lentP, idsV, idsL, clean, callArgs, callFn, enumT, conv, conv0, convL, IBlk.shape, Op.operands, reduceIte, reduceCtorEq, cond_true, cond_false, Bool.or_false, Bool.or_true, Bool.and_true, Bool.and_false, Bool.not_false, Nat.reduceAdd, Nat.reduceSub, Nat.reduceMul, Nat.reduceLT, Nat.reduceLeDiff, Nat.reduceEqDiff, Nat.reduceBEq, Nat.add_zero, Nat.zero_add, ne_eq, not_false_eq_true, beq_self_eq_true, true_and, and_true, and_false, and_self, implies_true, List.map_cons, List.map_nil, List.nil_append, List.cons_append, List.append_nil, List.all_nil, Option.map_some, Option.map_none, List.getD_cons_zero, List.length_nil, ex_clo, or_self, Bool.true_eq_false, Bool.false_eq_true, tab68, tab73, hN, Int.toNat_natCast, isBy_enc, toBy_enc, SLe0, convTm, convHp, convB, sm, effH, mkHC0, mkHC1, lendM, lentM, lentI, allHere, addIds, idsB, flatIds, reach, posn, renV, renL, renB, renH, numB, subHp, fwd, bk, bwd, nones, keyOK, noSl, noSlL, flatBs, List.contains, List.elem, Option.isSome_some, List.nodup_nil, List.nodup_cons, List.not_mem_nil, List.mem_cons, or_false, Option.getD_some, lh_spec_DrawIsDrawing_spec_newReader, lh_spec_DrawIsDrawing_spec_reader_pick, lh_spec_DrawIsDrawing_spec_someShape, hs_spec_newReader, hs_spec_reader_pick, hs_spec_someShape, rdr, hsz, hbt, d1, hs, es, ts, q1, Nat.zero_add]
    refine ⟨by omega, ?_⟩
    refine V_loop (α := Nat) ⟨tabOK, mixed, gok_spec_DrawIsDrawing, hok_spec_DrawIsDrawing⟩ (by kernel_rfl) (fun i => i ≤ s.length) (fun i => ⟨[(6, .num .i64 i), (5, .ref 14 0 i true), (4, .ref 2208 0 s.length true)], [(14, some (.arr 4 68 (encQs (edgesN s i)))), (2208, some (.arr 2 30 (encPs s)))]⟩) (fun i => s.length - i) 0 id (Nat.zero_le _)
      (by simp [SLe, SLe0, convTm, convHp, convB, conv, conv0, lkT, lkH, clean, edgesN, encQs]) ?_
    intro i hi
    have ln : (encQs (edgesN s i)).length = i := by rw [len_encQs, edgesN_len]
    simp only [V_seq, V_region, V_cond, W_nil, W_cons, effOp2, KN_seq, asB, effOp, effPure, pureV, binV, lenV, strip, lkT, ISt.app, opI, gO, gB, allB, gval, wrapG, dstOK, setD, Op.operands, Call.operands, List.append_toArray, reduceIte, reduceCtorEq, Nat.reduceLT, Nat.reduceEqDiff, ne_eq, not_false_eq_true, true_and, and_self, implies_true, List.nil_append, List.cons_append, tab23, hN]
    refine brW_some (fun h => ?_) (fun h => ?_)
    · have hi' : i < s.length := by simpa using h
      have hw := wr_succ hi' (by rw [maxLen_eq]; omega)
      have i0 : (0 : Int) ≤ (i : Int) := by omega
      have hlt : (i : Int) < (s.length : Int) := by omega
      have hen : encQs (edgesN s (i + 1)) = (encQs (edgesN s i)).take i ++ [IV.agg [.num .i64 (edgeP s i).1.1, .num .i64 (edgeP s i).1.2, .num .i64 (edgeP s i).2.1, .num .i64 (edgeP s i).2.2]] := by
        have ht : (encQs (edgesN s i)).take i = encQs (edgesN s i) := List.take_of_length_le (by omega)
        rw [edgesN_succ, ← encQs_app, ht]; rfl
      simp only [V_seq, V_skip, V_block, V_region, W_nil, W_cons, effOp2, KN_seq, KN_block, KN_back, effOp, effPure, effNew, effBuildSlice, effFrz, frz, tmpsOf, effAppend, effZeros, effCall, giveUp, hasAll, Option.isSome_some, skipE, pureV, srcV, refId, binV, ofC, strip, lkT, lkH, ISt.app, opI, gO, gB, allB, gval, wrapG, dstOK, setD, mentTm, mentHp, IV.ment, IV.mentL, partsL, eltsI, eltI, oneI, noId', lendV, lendP, lent, lentP, idsV, idsL, flat, flatL, clean, cleanL, callArgs, callFn, allLent, Op.operands, reduceIte, reduceCtorEq, cond_true, Bool.or_false, Bool.and_true, Bool.not_true, Nat.reduceAdd, Nat.reduceMul, Nat.reduceLT, Nat.reduceLeDiff, Nat.reduceEqDiff, Nat.reduceBEq, Nat.zero_add, ne_eq, not_false_eq_true, true_and, and_true, and_self, implies_true, forall_const, List.map_cons, List.map_nil, List.nil_append, List.cons_append, List.append_nil, List.all_cons, List.all_nil, Option.some.injEq, List.length_cons, List.length_nil, List.take_succ_cons, List.take_nil, List.drop_zero, ex_clo, or_self, tab68, tab73, hN, Int.toNat_natCast, encQ, isPs_enc, toPs_enc, Option.isSome_some, lk_spec_DrawIsDrawing_spec_edgeOf, sp_spec_edgeOf, lh_spec_DrawIsDrawing_spec_edgeOf, es, ts, ln, hw, hz, i0, hlt, Int.toNat_natCast]
      refine ⟨Nat.le_refl _, ⟨Nat.le_refl _, by omega⟩, i + 1, fun x => if x = 14 then 26 else x, by simp only []; omega, by simp only []; omega, ?_⟩
      simp only [hen]
      simp [SLe, SLe0, convTm, convHp, convB, conv, conv0, lkT, lkH, clean]
      exact ⟨(List.take_of_length_le (by rw [List.length_append, List.length_take]; exact Nat.le_refl _)).symm, fun id a1 a2 a3 => by omega⟩
    · have hie : i = s.length := by simp at h; omega
      subst hie
      have hfin : edgesN s s.length = edgesP s := rfl
      simp only [V_seq, V_ret, V_exit, V_region, W_nil, W_cons, effOp2, KN_seq, KXr_nil, KXr_seq, KXe_nil, KXe_seq, KXe_block, KXe_back, QE, effOp, effPure, pureV, strip, lkT, lkH, ISt.app, opI, gO, gB, allB, gval, wrapG, dstOK, setD, Gives, Ideal.Fin, conv, conv0, Op.operands, reduceIte, Nat.reduceLT, Nat.reduceEqDiff, Nat.zero_add, ne_eq, true_and, and_true, and_self, false_implies, implies_true, List.nil_append, List.cons_append, Option.some.injEq, List.drop_zero, Bool.false_eq_true, hN, Option.isSome_none, hd, hfin]
      exact ⟨_, _, rfl, by rw [← hfin]; omega, (List.take_of_length_le (by rw [← hfin]; omega)).symm⟩
  · have d1 : (pickI (b.take 2000) 0 2 == 0) = false := by simpa using c
    rw [if_neg c] at hd
    obtain ⟨l, hl⟩ : ∃ l, (aSegs (b.take 2000) 1).1 = l := ⟨_, rfl⟩
    rw [hl] at hd
    have tl := take_encQs l
    simp only [V_seq, V_skip, V_ret, V_region, V_cond, brW_false, W_nil, W_cons, effOp2, KN_seq, KXr_nil, QE, asB, effOp, effPure, Option.isSome_some, skipE, pureV, binV, ofC, strip, lkT, lkH, ISt.app, opI, gO, gB, allB, gval, wrapG, dstOK, setD, mentTm, mentHp, IV.ment, IV.mentL, lendV, lendP, lent, lentP, idsV, idsL, clean, callArgs, callFn, enumT, Gives, Ideal.Fin, conv, conv0, convL, IBlk.shape, Op.operands, reduceIte, reduceCtorEq, cond_true, cond_false, Bool.or_false, Bool.or_true, Bool.and_true, Bool.and_false, Bool.not_false, Nat.reduceAdd, Nat.reduceSub, Nat.reduceMul, Nat.reduceLT, Nat.reduceLeDiff, Nat.reduceEqDiff, Nat.reduceBEq, Nat.add_zero, Nat.zero_add, ne_eq, not_false_eq_true, beq_self_eq_true, true_and, and_true, and_false, and_self, false_implies, implies_true, List.map_cons, List.map_nil, List.nil_append, List.cons_append, List.append_nil, List.all_nil, Option.some.injEq, Option.map_some, Option.map_none, List.getD_cons_zero, List.drop_zero, ex_clo, or_self, Bool.true_eq_false, Bool.false_eq_true, hN, Int.toNat_natCast, isBy_enc, toBy_enc, SLe0, convTm, convHp, convB, sm, effH, mkHC0, mkHC1, lendM, lentM, lentI, allHere, addIds, idsB, flatIds, reach, posn, renV, renL, renB, renH, numB, subHp, fwd, bk, bwd, nones, keyOK, noSl, noSlL, flatBs, List.contains, List.elem, Option.isSome_some, Option.isSome_none, List.nodup_nil, List.nodup_cons, List.not_mem_nil, List.mem_cons, or_false, Option.getD_some, lh_spec_DrawIsDrawing_spec_newReader, lh_spec_DrawIsDrawing_spec_reader_pick, lh_spec_DrawIsDrawing_spec_anySegments, hs_spec_newReader, hs_spec_reader_pick, hs_spec_anySegments, rdr, hsz, hbt, d1, q2, hl, hd, Nat.zero_add]
    exact ⟨by omega, List.take_length.symm, _, _, rfl, by rw [len_encQs]; exact Nat.le_refl _, tl.symm⟩
def sp_spec_DrawIsDrawing : PSpec := ⟨fun xs => match xs with | [.sl 1 bes] => isBy bes ∧ ((fun (b : List Int) => ∀ x ∈ b, 0 ≤ x ∧ x < 256) (toIs bes)) ∧ ((fun (b : List Int) => b.length ≤ 1048576) (toIs bes)) | _ => False, fun xs => match xs with | [.sl _ bes] => (fun (b : List Int) => .sl 4 (encQs (drawDr b))) (toIs bes) | _ => .junk, false⟩
theorem gk_spec_DrawIsDrawing : ∀ args, sp_spec_DrawIsDrawing.pre args → ICall Try.prog 59 args (sp_spec_DrawIsDrawing.val args) := by
  intro args h
  unfold sp_spec_DrawIsDrawing at h ⊢; simp only at h ⊢; split at h
  · obtain ⟨h0, h1, h2⟩ := h
    obtain ⟨l0, rfl⟩ := isBy_ex h0
    simp only [toBy_enc] at *
    exact c_spec_DrawIsDrawing _ h1 h2
  · exact h.elim
theorem en_spec_DrawIsDrawing : Enters Try.prog 59 := enters_of Try.func59 (by kernel_rfl) rfl

def g_laws_FnIsDrawing : List (Nat × PSpec) := [(59, sp_spec_DrawIsDrawing), (60, sp_impl_IsDrawing), (61, sp_spec_IsDrawing), (62, sp_impl_CrossingPoints_n)]
theorem gok_laws_FnIsDrawing : GOK Try.prog g_laws_FnIsDrawing := gok_cons gk_spec_DrawIsDrawing en_spec_DrawIsDrawing (gok_cons gk_impl_IsDrawing en_impl_IsDrawing (gok_cons gk_spec_IsDrawing en_spec_IsDrawing (gok_cons gk_impl_CrossingPoints_n en_impl_CrossingPoints_n (gok0))))
theorem lk_laws_FnIsDrawing_spec_DrawIsDrawing : lkG g_laws_FnIsDrawing 59 = sp_spec_DrawIsDrawing := rfl
theorem lk_laws_FnIsDrawing_impl_IsDrawing : lkG g_laws_FnIsDrawing 60 = sp_impl_IsDrawing := rfl
theorem lk_laws_FnIsDrawing_spec_IsDrawing : lkG g_laws_FnIsDrawing 61 = sp_spec_IsDrawing := rfl
theorem lk_laws_FnIsDrawing_impl_CrossingPoints_n : lkG g_laws_FnIsDrawing 62 = sp_impl_CrossingPoints_n := rfl
def h_laws_FnIsDrawing : List (Nat × HSpec) := []
theorem hok_laws_FnIsDrawing : HOK Try.prog h_laws_FnIsDrawing := hok0
theorem c_laws_FnIsDrawing (b : List Int) (c : List Int) (hb : ∀ x ∈ b, 0 ≤ x ∧ x < 256) (hc : ∀ x ∈ c, 0 ≤ x ∧ x < 256) : ICall Try.prog 13 [.sl 1 (encBy b), .sl 1 (encBy c)] (.bool true) := by
  refine icall_V (G := g_laws_FnIsDrawing) (H := []) [] tabOK mixed gok_laws_FnIsDrawing hok_laws_FnIsDrawing Try.func13 rfl Try.ntmps13 Try.results13 rfl (by kernel_rfl) fun F hN hlen => ?_
  have eb := len_encBy b
  have ec := len_encBy c
  have bb : ∀ x : Bool, (x != x) = false := fun x => by simp
  have bb2 : ∀ x : Bool, (x == x) = true := fun x => by simp
  cases d1 : decide (1048576 < (b.length : Int)) with
  | true => simp only [V_seq, V_ret, V_region, V_cond, brW_true, W_nil, W_cons, effOp2, KN_seq, KXr_nil, KXr_seq, QE, asB, effOp, effPure, effPick, pureV, pickV, binV, lenV, ofC, strip, lkT, lkH, ISt.app, opI, gO, gB, allB, gval, wrapG, dstOK, setD, clean, enumT, Gives, Ideal.Fin, conv, conv0, Op.operands, Call.operands, List.append_toArray, reduceIte, reduceCtorEq, cond_true, Nat.reduceLT, Nat.reduceEqDiff, Nat.zero_add, ne_eq, not_false_eq_true, and_true, and_self, false_implies, implies_true, List.nil_append, List.cons_append, List.append_nil, Option.bind_some, List.getElem?_cons_zero, List.getElem?_cons_succ, btf, Bool.true_eq_false, Bool.false_eq_true, tab22, hN, eb, d1]
  | false =>
    cases d2 : decide (1048576 < (c.length : Int)) with
    | true => simp only [V_seq, V_ret, V_region, V_cond, brW_true, W_nil, W_cons, effOp2, KN_seq, KXr_nil, KXr_seq, QE, asB, effOp, effPure, effPick, pureV, pickV, binV, lenV, ofC, strip, lkT, lkH, ISt.app, opI, gO, gB, allB, gval, wrapG, dstOK, setD, clean, enumT, Gives, Ideal.Fin, conv, conv0, Op.operands, Call.operands, List.append_toArray, reduceIte, reduceCtorEq, cond_false, Nat.reduceLT, Nat.reduceEqDiff, Nat.zero_add, ne_eq, not_false_eq_true, beq_self_eq_true, and_self, implies_true, List.nil_append, List.cons_append, List.append_nil, Option.bind_some, List.getElem?_cons_zero, List.getElem?_cons_succ, Bool.false_eq_true, tab22, hN, eb, ec, d1, d2]
    | false =>
      have hsz : b.length ≤ 1048576 := by simp at d1; omega
      have hsc : c.length ≤ 1048576 := by simp at d2; omega
      have hl := drawDr_len hb
      obtain ⟨l, hl0⟩ : ∃ l, drawDr b = l := ⟨_, rfl⟩
      rw [hl0] at hl
      have e1 := len_encQs l
      cases hs : drB l with
      | false =>
        simp only [V_seq, V_skip, V_ret, V_region, V_cond, brW_true, brW_false, W_nil, W_cons, effOp2, KN_seq, KXr_nil, KXr_seq, QE, asB, effOp, effPure, effPick, effCall, giveUp, hasAll, pureV, pickV, binV, lenV, ofC, strip, lkT, lkH, ISt.app, opI, gO, gB, allB, gval, wrapG, dstOK, setD, lendV, lendP, lent, lentP, idsV, idsL, lkHS, flat, clean, callArgs, callFn, allLent, enumT, Gives, Ideal.Fin, conv, conv0, Op.operands, Call.operands, List.append_toArray, reduceIte, reduceCtorEq, cond_true, cond_false, Bool.or_false, Bool.not_true, Bool.not_false, Nat.reduceLT, Nat.reduceEqDiff, Nat.zero_add, ne_eq, not_false_eq_true, beq_self_eq_true, true_and, and_true, and_self, implies_true, forall_const, List.map_cons, List.map_nil, List.nil_append, List.cons_append, List.append_nil, Option.bind_some, List.getElem?_cons_zero, List.getElem?_cons_succ, ex_clo, or_true, or_self, Bool.false_eq_true, tab4, tab22, hN, isQs_enc, toQs_enc, isBy_enc, toBy_enc, lk_laws_FnIsDrawing_spec_DrawIsDrawing, lk_laws_FnIsDrawing_impl_IsDrawing, lk_laws_FnIsDrawing_spec_IsDrawing, sp_spec_DrawIsDrawing, sp_impl_IsDrawing, sp_spec_IsDrawing, eb, ec, d1, d2, hsz, hl0, hs]
        exact hb
      | true =>
        obtain ⟨h1, h2⟩ := dr_no2 hs
        have hr : ∀ i j : Nat, i < j → j < l.length → (relP (qAt l i) (qAt l j) == 2) = false := fun i j a1 a2 => (h2 i j a1 a2).2
        obtain ⟨k, hk0⟩ : ∃ k, c.length % (l.length + 1) = k := ⟨_, rfl⟩
        have hkl : k ≤ l.length := by have := Nat.mod_lt c.length (show 0 < l.length + 1 by omega); omega
        have w1 : IntKind.i64.wrap ((l.length : Int) + 1) = ((l.length + 1 : Nat) : Int) := by rw [wr (by omega) (by omega)]; omega
        have d4 : (((l.length + 1 : Nat) : Int) == 0) = false := by simp; omega
        have t1 : (c.length : Int).tmod ((l.length + 1 : Nat) : Int) = (k : Int) := by rw [Int.tmod_eq_emod_of_nonneg (by omega), ← hk0]; simp
        have tk : Int.toNat (k : Int) = k := Int.toNat_natCast k
        have hT := dr_take hs k
        have etk : (encQs l).take k = encQs (l.take k) := by simp [encQs, List.map_take]
        have n0 : ([] : List IV).length = 0 := rfl
        have z0 : (((0 : Nat) : Int) == 0) = true := rfl
        simp only [V_seq, V_skip, V_ret, V_region, V_cond, brW_false, W_nil, W_cons, effOp2, KN_seq, KXr_nil, QE, asB, effOp, effPure, effPick, effCall, giveUp, hasAll, pureV, pickV, binV, sliceV, lenV, ofC, strip, lkT, lkH, ISt.app, opI, gO, gB, allB, gval, wrapG, dstOK, setD, lendV, lendP, lent, lentP, idsV, idsL, lkHS, flat, clean, callArgs, callFn, allLent, enumT, Gives, Ideal.Fin, conv, conv0, Op.operands, Call.operands, List.append_toArray, Array.append_empty, Option.toArray_none, Option.toArray_some, reduceIte, reduceCtorEq, cond_true, cond_false, Bool.or_false, Bool.not_true, Nat.reduceLT, Nat.reduceEqDiff, Nat.zero_add, ne_eq, not_false_eq_true, beq_self_eq_true, true_and, and_true, and_self, implies_true, forall_const, List.map_cons, List.map_nil, List.nil_append, List.cons_append, List.append_nil, Option.map_some, Option.map_none, Option.bind_some, List.getElem?_cons_zero, List.getElem?_cons_succ, ex_clo, or_true, or_self, Bool.true_eq_false, Bool.false_eq_true, tab4, tab22, tab51, tab68, tab73, hN, isQs_enc, toQs_enc, isBy_enc, toBy_enc, lk_laws_FnIsDrawing_spec_DrawIsDrawing, lk_laws_FnIsDrawing_impl_IsDrawing, lk_laws_FnIsDrawing_spec_IsDrawing, lk_laws_FnIsDrawing_impl_CrossingPoints_n, sp_spec_DrawIsDrawing, sp_impl_IsDrawing, sp_spec_IsDrawing, sp_impl_CrossingPoints_n, eb, ec, d1, d2, hsz, hl0, e1, hs, h1, w1, t1, tk, hT, etk, n0, z0]
        exact ⟨hb, by omega, hr, by omega, by omega⟩
def sp_laws_FnIsDrawing : PSpec := ⟨fun xs => match xs with | [.sl 1 bes, .sl 1 ces] => isBy bes ∧ isBy ces ∧ ((fun (b : List Int) (c : List Int) => ∀ x ∈ b, 0 ≤ x ∧ x < 256) (toIs bes) (toIs ces)) ∧ ((fun (b : List Int) (c : List Int) => ∀ x ∈ c, 0 ≤ x ∧ x < 256) (toIs bes) (toIs ces)) | _ => False, fun xs => match xs with | [.sl _ bes, .sl _ ces] => (fun (b : List Int) (c : List Int) => .bool true) (toIs bes) (toIs ces) | _ => .junk, false⟩
theorem gk_laws_FnIsDrawing : ∀ args, sp_laws_FnIsDrawing.pre args → ICall Try.prog 13 args (sp_laws_FnIsDrawing.val args) := by
  intro args h
  unfold sp_laws_FnIsDrawing at h ⊢; simp only at h ⊢; split at h
  · obtain ⟨h0, h1, h2, h3⟩ := h
    obtain ⟨l0, rfl⟩ := isBy_ex h0
    obtain ⟨l1, rfl⟩ := isBy_ex h1
    simp only [toBy_enc] at *
    exact c_laws_FnIsDrawing _ _ h2 h3
  · exact h.elim
theorem en_laws_FnIsDrawing : Enters Try.prog 13 := enters_of Try.func13 (by kernel_rfl) rfl

end Go.Proofs.Ytemppebemahkoaa
