/- The law on redundant half-planes: the walk. -/
import Derived.Test.YtjlcbomigbolcaaB33
import Derived.Test.YtjlcbomigbolcaaB34
import Derived.Test.YtjlcbomigbolcaaPl19
set_option linter.unusedVariables false
set_option linter.unusedSimpArgs false
set_option maxHeartbeats 1600000
set_option maxRecDepth 100000
namespace Go.Proofs.Ytjlcbomigbolcaa
open Go Go.Ideal Go.Pl Go.Sort

theorem okHs_sub' {l m : List Tr} (hs : ∀ k ∈ m, k ∈ l) (hl : m.length ≤ l.length) (h : okHs l = true) : okHs m = true := by
  simp only [okHs, Bool.and_eq_true, List.all_eq_true, decide_eq_true_eq] at h ⊢
  exact ⟨fun k hk => h.1 k (hs k hk), by omega⟩
/-- The index that a code draws. -/
theorem aHalves_pos (b : List Int) (hb : BytesOK b) (p : Nat) (hp : p ≤ 1000000) : (aHalves b p).2 ≤ p + 100 ∧ (aHalves b p).1.length ≤ 9 := by
  have h1 := pick_nonneg hb (show p ≤ 1000000000 by omega) 6
  have h2 := h1.2.1 (by omega)
  have n2 : hNum b p < 6 := by unfold hNum; omega
  have hl := hLoop_len b (hNum b p) (p + 1)
  unfold aHalves
  simp only []
  split
  · exact ⟨by simp only []; omega, by simp only []; omega⟩
  · split
    · exact ⟨by simp only []; omega, by simp only [List.length_set]; omega⟩
    · split
      · exact ⟨by simp only []; omega, by simp only [List.length_set]; omega⟩
      · split
        · exact ⟨by simp only []; omega, by simp only [List.length_append, hLoop_len]; omega⟩
        · exact ⟨by simp only []; omega, by simp only []; omega⟩
def drawK (b : List Int) : Int := pickI (b.take 2000) (aHalves (b.take 2000) 0).2 (((drawHs b).length : Int) + 1) - pickI (b.take 2000) ((aHalves (b.take 2000) 0).2 + 1) 2
def g_spec_DrawIsRedundant : List (Nat × PSpec) := []
theorem gok_spec_DrawIsRedundant : GOK Try.prog g_spec_DrawIsRedundant := gok0
def h_spec_DrawIsRedundant : List (Nat × HSpec) := [(64, hs_spec_newReader), (63, hs_spec_anyHalves), (74, hs_spec_reader_pick)]
theorem hok_spec_DrawIsRedundant : HOK Try.prog h_spec_DrawIsRedundant := hok_cons hk_spec_newReader en_spec_newReader (hok_cons hk_spec_anyHalves en_spec_anyHalves (hok_cons hk_spec_reader_pick en_spec_reader_pick (hok0)))
theorem lh_spec_DrawIsRedundant_spec_newReader : lkHS h_spec_DrawIsRedundant 64 = some hs_spec_newReader := rfl
theorem lh_spec_DrawIsRedundant_spec_anyHalves : lkHS h_spec_DrawIsRedundant 63 = some hs_spec_anyHalves := rfl
theorem lh_spec_DrawIsRedundant_spec_reader_pick : lkHS h_spec_DrawIsRedundant 74 = some hs_spec_reader_pick := rfl
theorem c_spec_DrawIsRedundant (b : List Int) (hb : ∀ x ∈ b, 0 ≤ x ∧ x < 256) (hsz : b.length ≤ 1048576) : ICall Try.prog 21 [.sl 1 (encBy b)] (.tup [.sl 3 (encTs (drawHs b)), .num .i64 (drawK b)]) := by
  refine icall_V (G := g_spec_DrawIsRedundant) (H := h_spec_DrawIsRedundant) [] tabOK mixed gok_spec_DrawIsRedundant hok_spec_DrawIsRedundant Try.func21 rfl Try.ntmps21 Try.results21 rfl (by kernel_rfl) fun F hN hlen => ?_
  have hbt := bytes_take hb
  have hd : (aHalves (b.take 2000) 0).1 = drawHs b := rfl
  obtain ⟨p1, p2⟩ := aHalves_pos _ hbt 0 (by omega)
  have hv : drawK b = pickI (b.take 2000) (aHalves (b.take 2000) 0).2 (((drawHs b).length : Int) + 1) - pickI (b.take 2000) ((aHalves (b.take 2000) 0).2 + 1) 2 := rfl
  obtain ⟨q, hq⟩ : ∃ q, (aHalves (b.take 2000) 0).2 = q := ⟨_, rfl⟩
  rw [hd] at p2
  rw [hq] at p1 hv
  have el := len_encTs (drawHs b)
  have w1 : IntKind.i64.wrap (((drawHs b).length : Int) + 1) = ((drawHs b).length : Int) + 1 := wr (by omega) (by omega)
  have k1 := pick_nonneg hbt (show q ≤ 1000000000 by omega) (((drawHs b).length : Int) + 1)
  have k2 := pick_nonneg hbt (show q + 1 ≤ 1000000000 by omega) 2
  have k3 := k1.2.1 (by omega)
  have k4 := k2.2.1 (by omega)
  have w2 : IntKind.i64.wrap (pickI (b.take 2000) q (((drawHs b).length : Int) + 1) - pickI (b.take 2000) (q + 1) 2) = drawK b := by rw [hv]; exact wr (by omega) (by omega)
  have z1 : q ≤ 1000000 := by omega
  have z2 : q + 1 ≤ 1000000 := by omega
  have z3 : -1000000 ≤ ((drawHs b).length : Int) + 1 := by omega
  have z4 : ((drawHs b).length : Int) + 1 ≤ 1000000 := by omega
  simp only [V_seq, V_ret, V_region, W_nil, W_cons, effOp2, KN_seq, KXr_nil, QE, effOp, effPure, Option.isSome_some, skipE, pureV, binV, lenV, ofC, strip, lkT, lkH, ISt.app, opI, gO, gB, allB, gval, wrapG, dstOK, setD, mentTm, mentHp, IV.ment, IV.mentL, lendV, lendP, lent, lentP, idsV, idsL, clean, callArgs, callFn, enumT, Gives, Ideal.Fin, conv, conv0, convL, IBlk.shape, Op.operands, Call.operands, List.append_toArray, reduceIte, reduceCtorEq, cond_true, cond_false, Bool.or_false, Bool.or_true, Bool.and_true, Bool.and_false, Bool.not_false, Nat.reduceAdd, Nat.reduceSub, Nat.reduceMul, Nat.reduceLT, Nat.reduceLeDiff, Nat.reduceEqDiff, Nat.reduceBEq, Nat.add_zero, Nat.zero_add, ne_eq, not_false_eq_true, beq_self_eq_true, true_and, and_true, and_false, and_self, false_implies, implies_true, List.map_cons, List.map_nil, List.nil_append, List.cons_append, List.append_nil, List.all_nil, Option.some.injEq, Option.map_some, Option.map_none, List.getD_cons_zero, List.drop_zero, ex_clo, or_self, Bool.true_eq_false, Bool.false_eq_true, tab23, hN, Int.toNat_natCast, isBy_enc, toBy_enc, SLe0, convTm, convHp, convB, sm, effH, mkHC0, mkHC1, lendM, lentM, lentI, allHere, addIds, idsB, flatIds, reach, posn, renV, renL, renB, renH, numB, subHp, fwd, bk, bwd, nones, keyOK, noSl, noSlL, flatBs, List.contains, List.elem, Option.isSome_some, Option.isSome_none, List.nodup_nil, List.nodup_cons, List.not_mem_nil, List.mem_cons, or_false, Option.getD_some, lh_spec_DrawIsRedundant_spec_newReader, lh_spec_DrawIsRedundant_spec_anyHalves, lh_spec_DrawIsRedundant_spec_reader_pick, hs_spec_newReader, hs_spec_anyHalves, hs_spec_reader_pick, rdr, hsz, hbt, hd, hq, take_encTs, el, w1, w2, z1, z2, z4]
  exact ⟨by omega, _, _, rfl, by rw [len_encTs]; exact Nat.le_refl _, (take_encTs _).symm⟩
def sp_spec_DrawIsRedundant : PSpec := ⟨fun xs => match xs with | [.sl 1 bes] => isBy bes ∧ ((fun (b : List Int) => ∀ x ∈ b, 0 ≤ x ∧ x < 256) (toIs bes)) ∧ ((fun (b : List Int) => b.length ≤ 1048576) (toIs bes)) | _ => False, fun xs => match xs with | [.sl _ bes] => (fun (b : List Int) => .tup [.sl 3 (encTs (drawHs b)), .num .i64 (drawK b)]) (toIs bes) | _ => .junk, false⟩
theorem gk_spec_DrawIsRedundant : ∀ args, sp_spec_DrawIsRedundant.pre args → ICall Try.prog 21 args (sp_spec_DrawIsRedundant.val args) := by
  intro args h
  unfold sp_spec_DrawIsRedundant at h ⊢; simp only at h ⊢; split at h
  · obtain ⟨h0, h1, h2⟩ := h
    obtain ⟨l0, rfl⟩ := isBy_ex h0
    simp only [toBy_enc] at *
    exact c_spec_DrawIsRedundant _ h1 h2
  · exact h.elim
theorem en_spec_DrawIsRedundant : Enters Try.prog 21 := enters_of Try.func21 (by kernel_rfl) rfl

theorem red_facts {l : List Tr} {k : Int} (h : redB l k = true) : okHs l = true ∧ ∃ i : Nat, k = i ∧ i < l.length ∧ ∀ q ∈ cornP (l.take i ++ l.drop (i + 1)), sideQ (tAt l i) q ≤ 0 := by
  unfold redB at h
  simp only [Bool.and_eq_true] at h
  obtain ⟨h1, h2, h3⟩ := h
  obtain ⟨i, rfl, hi⟩ := inR_nat h2
  rw [Int.toNat_natCast, List.all_eq_true] at h3
  exact ⟨h1, i, rfl, hi, fun q hq => by simpa using h3 q hq⟩
def g_laws_FnIsRedundant : List (Nat × PSpec) := [(21, sp_spec_DrawIsRedundant), (22, sp_impl_IsRedundant), (23, sp_spec_IsRedundant), (16, sp_impl_Corners)]
theorem gok_laws_FnIsRedundant : GOK Try.prog g_laws_FnIsRedundant := gok_cons gk_spec_DrawIsRedundant en_spec_DrawIsRedundant (gok_cons gk_impl_IsRedundant en_impl_IsRedundant (gok_cons gk_spec_IsRedundant en_spec_IsRedundant (gok_cons gk_impl_Corners en_impl_Corners (gok0))))
theorem lk_laws_FnIsRedundant_spec_DrawIsRedundant : lkG g_laws_FnIsRedundant 21 = sp_spec_DrawIsRedundant := rfl
theorem lk_laws_FnIsRedundant_impl_IsRedundant : lkG g_laws_FnIsRedundant 22 = sp_impl_IsRedundant := rfl
theorem lk_laws_FnIsRedundant_spec_IsRedundant : lkG g_laws_FnIsRedundant 23 = sp_spec_IsRedundant := rfl
theorem lk_laws_FnIsRedundant_impl_Corners : lkG g_laws_FnIsRedundant 16 = sp_impl_Corners := rfl
def h_laws_FnIsRedundant : List (Nat × HSpec) := []
theorem hok_laws_FnIsRedundant : HOK Try.prog h_laws_FnIsRedundant := hok0
theorem c_laws_FnIsRedundant (b : List Int) (hb : ∀ x ∈ b, 0 ≤ x ∧ x < 256) : ICall Try.prog 4 [.sl 1 (encBy b)] (.bool true) := by
  refine icall_V (G := g_laws_FnIsRedundant) (H := []) [(7, [(0, 1), (0, 2), (0, 3), (1, 4), (2, 4), (0, 5), (4, 5), (0, 6), (4, 6), (0, 7), (4, 7), (0, 8), (4, 8), (0, 9), (1, 9), (2, 9), (3, 9), (5, 9), (6, 9), (7, 9)])] tabOK mixed gok_laws_FnIsRedundant hok_laws_FnIsRedundant Try.func4 rfl Try.ntmps4 Try.results4 rfl (by kernel_rfl) fun F hN hlen => ?_
  have eb := len_encBy b
  have bn : ∀ x : Bool, (x != x) = false := fun x => by simp
  have be : ∀ x : Bool, (x == x) = true := fun x => by simp
  simp only [V_seq, V_region, V_cond, W_nil, W_cons, effOp2, KN_seq, asB, effOp, effPure, pureV, binV, lenV, ofC, strip, lkT, ISt.app, opI, gO, gB, allB, gval, wrapG, dstOK, setD, enumT, Op.operands, Call.operands, List.append_toArray, reduceIte, reduceCtorEq, Nat.reduceLT, Nat.reduceEqDiff, ne_eq, not_false_eq_true, true_and, and_self, implies_true, List.nil_append, List.cons_append, List.append_nil, tab22, hN, eb]
  refine brW_some (fun h => ?_) (fun h => ?_)
  · simp only [V_seq, V_ret, V_region, W_nil, W_cons, effOp2, KN_seq, KXr_nil, KXr_seq, QE, effOp, effPure, pureV, ofC, strip, lkT, lkH, ISt.app, opI, gO, gB, allB, gval, wrapG, dstOK, setD, clean, Gives, Ideal.Fin, conv, conv0, Op.operands, reduceIte, reduceCtorEq, Nat.reduceLT, Nat.reduceEqDiff, and_self, implies_true, List.nil_append, List.cons_append, List.append_nil, hN]
  · have hsz : b.length ≤ 1048576 := by simp at h; omega
    obtain ⟨l, hl⟩ : ∃ l, drawHs b = l := ⟨_, rfl⟩
    obtain ⟨k, hk⟩ : ∃ k, drawK b = k := ⟨_, rfl⟩
    cases hr : redB l k with
    | false =>
      simp only [V_seq, V_skip, V_ret, V_region, V_cond, brW_true, W_nil, W_cons, effOp2, KN_seq, KXr_nil, KXr_seq, QE, asB, effOp, effPure, effPick, effCall, giveUp, hasAll, pureV, pickV, binV, ofC, strip, lkT, lkH, ISt.app, opI, gO, gB, allB, gval, wrapG, dstOK, setD, lendV, lendP, lent, lentP, idsV, idsL, lkHS, flat, flatL, clean, cleanL, callArgs, callFn, allLent, Gives, Ideal.Fin, conv, conv0, Op.operands, reduceIte, reduceCtorEq, cond_true, cond_false, Bool.or_false, Bool.and_true, Bool.not_true, Bool.not_false, Nat.reduceAdd, Nat.reduceLT, Nat.reduceEqDiff, Nat.zero_add, beq_self_eq_true, true_and, and_true, and_self, implies_true, forall_const, List.map_cons, List.map_nil, List.nil_append, List.cons_append, List.append_nil, Option.bind_some, List.getElem?_cons_zero, List.getElem?_cons_succ, List.getD_cons_zero, List.getD_cons_succ, List.length_cons, List.length_nil, ex_clo, or_true, or_self, Bool.false_eq_true, tab4, hN, isTs_enc, toTs_enc, isBy_enc, toBy_enc, lk_laws_FnIsRedundant_spec_DrawIsRedundant, lk_laws_FnIsRedundant_impl_IsRedundant, lk_laws_FnIsRedundant_spec_IsRedundant, sp_spec_DrawIsRedundant, sp_impl_IsRedundant, sp_spec_IsRedundant, hsz, hl, hk, hr]
      exact hb
    | true =>
      obtain ⟨ok, i, rfl, hi, hs⟩ := red_facts hr
      have hl8 := okHs_len ok
      have el := len_encTs l
      have hw : IntKind.i64.wrap ((i : Int) + 1) = ((i + 1 : Nat) : Int) := by rw [wr (by omega) (by omega)]; omega
      have hsub := take_drop_mem hi
      have hti : l[i] = tAt l i := by rw [tAt, List.getD, List.getElem?_eq_getElem hi]; rfl
      obtain ⟨O, hO⟩ : ∃ O, l.take i ++ l.drop (i + 1) = O := ⟨_, rfl⟩
      rw [hO, hti] at hsub
      rw [hO] at hs
      have hOl : O.length = l.length - 1 := by rw [← hO, List.length_append, List.length_take, List.length_drop]; omega
      have oO : okHs O = true := okHs_sub' hsub.1 (by omega) ok
      have hcl : cornV l = cornP l := by rw [cornV, ok]; rfl
      have hcO : cornV O = cornP O := by rw [cornV, oO]; rfl
      have hin : ∀ q ∈ cornV O, q ∈ cornV l := by rw [hcl, hcO]; exact corn_red hsub.1 hsub.2 hs
      have hem : cornV O = [] ↔ cornV l = [] := by
        constructor
        · intro h0; rw [hcl]; exact corn_sub hsub.1 (by rw [← hcO]; exact h0)
        · intro h0
          cases hx : cornV O with
          | nil => rfl
          | cons q r => have := hin q (by rw [hx]; simp); rw [h0] at this; cases this
      have zO := cornV_len O
      have zl := cornV_len l
      obtain ⟨A, hA⟩ : ∃ A, cornV O = A := ⟨_, rfl⟩
      obtain ⟨B, hB⟩ : ∃ B, cornV l = B := ⟨_, rfl⟩
      rw [hA] at zO hin hem
      rw [hB] at zl hin hem
      have ea := len_encQs A
      have eB := len_encQs B
      have l1 : (encTs (l.take i)).length = i := by rw [len_encTs, List.length_take]; omega
      have l3 : (encTs (l.drop (i + 1))).length = l.length - (i + 1) := by rw [len_encTs]; exact List.length_drop
      have tt : List.take i (l.take i) = l.take i := by rw [List.take_take, Nat.min_self]
      have eapp : encTs (l.take i) ++ encTs (l.drop (i + 1)) = encTs O := by rw [encTs_app, hO]
      have hOl2 : (encTs O).length = i + (l.length - (i + 1)) := by rw [len_encTs, hOl]; omega
      have tk : (encTs O).take (i + (l.length - (i + 1))) = encTs O := List.take_of_length_le (by omega)
      simp only [V_seq, V_skip, V_block, V_region, V_draw, V_cond, brW_false, drawW, WS_nil, pairsOf, W_nil, W_cons, effOp2, WI_nil, WI_cons, KN_seq, dynOK, indB, farB, seeB, see, isStore, freshB, heapy, asB, effOp, effPure, effPick, effNew, effBuildSlice, effFrz, frz, tmpsOf, effAppend, effZeros, effCall, giveUp, hasAll, Option.isSome_some, skipE, pureV, pickV, srcV, refId, binV, sliceV, ofC, strip, lkT, lkH, ISt.app, opI, gO, gB, allB, gval, wrapG, dstOK, setD, mentTm, mentHp, IV.ment, IV.mentL, partsL, eltsI, lendV, lendP, lent, lentP, idsV, idsL, lkHS, flat, flatL, clean, cleanL, callArgs, callFn, allLent, Op.operands, Call.operands, List.append_toArray, Array.append_empty, Option.toArray_none, Option.toArray_some, reduceIte, reduceCtorEq, cond_true, cond_false, Bool.or_false, Bool.or_true, Bool.and_true, Bool.and_false, Bool.and_eq_true, Bool.not_true, Bool.not_false, Nat.reduceAdd, Nat.reduceMul, Nat.reduceLT, Nat.reduceLeDiff, Nat.reduceEqDiff, Nat.reduceBEq, Nat.zero_add, ne_eq, not_false_eq_true, beq_self_eq_true, true_and, and_true, and_self, implies_true, forall_const, List.map_cons, List.map_nil, List.nil_append, List.cons_append, List.append_nil, List.all_cons, List.all_nil, Option.map_some, Option.map_none, Option.bind_some, List.getElem?_cons_zero, List.getElem?_cons_succ, List.getD_cons_zero, List.getD_cons_succ, List.length_cons, List.length_nil, List.take_zero, List.take_nil, List.drop_zero, ex_clo, or_true, or_self, Bool.false_eq_true, tab4, tab23, tab92, hN, Int.toNat_natCast, isTs_enc, toTs_enc, isBy_enc, toBy_enc, lk_laws_FnIsRedundant_spec_DrawIsRedundant, lk_laws_FnIsRedundant_impl_IsRedundant, lk_laws_FnIsRedundant_spec_IsRedundant, lk_laws_FnIsRedundant_impl_Corners, sp_spec_DrawIsRedundant, sp_impl_IsRedundant, sp_spec_IsRedundant, sp_impl_Corners, hsz, hl, hk, hr, el, hw, encTs_take, encTs_drop, tt, l1, l3, eapp, hOl2, tk, hA, hB]
      refine ⟨hb, ?_⟩
      repeat refine And.intro (by first | omega | (simp; done) | (simp; omega)) ?_
      refine V_loop (α := Nat) ⟨tabOK, mixed, gok_laws_FnIsRedundant, hok_laws_FnIsRedundant⟩ (by kernel_rfl) (fun j => j ≤ A.length) (fun j => ⟨[(9, .num .i64 j), (8, .sl 4 (encQs B)), (7, .sl 4 (encQs A))], []⟩) (fun j => A.length - j) 0 id (Nat.zero_le _) (by simp [SLe, SLe0, convTm, convHp, conv, conv0, lkT, lkH, clean]) ?_
      intro j hj
      simp only [V_seq, V_region, V_cond, W_nil, W_cons, effOp2, KN_seq, asB, effOp, effPure, pureV, binV, lenV, strip, lkT, ISt.app, opI, gO, gB, allB, gval, wrapG, dstOK, setD, Op.operands, Call.operands, List.append_toArray, reduceIte, reduceCtorEq, Nat.reduceLT, Nat.reduceEqDiff, ne_eq, not_false_eq_true, true_and, and_self, implies_true, List.nil_append, List.cons_append, List.append_nil, tab25, hN, ea]
      refine brW_some (fun h => ?_) (fun h => ?_)
      · have hj' : j < A.length := by simpa using h
        have g0 := getD_encQs hj'
        have hw2 := wr_succ hj' (by rw [maxLen_eq]; omega)
        have hqm : qAt A j ∈ B := hin _ (by rw [qAt, List.getD, List.getElem?_eq_getElem hj']; exact List.getElem_mem hj')
        generalize qAt A j = q at *
        simp only [V_seq, V_skip, V_block, V_region, W_nil, W_cons, effOp2, KN_seq, effOp, effPure, pureV, ofC, strip, ISt.app, opI, gO, gB, allB, gval, wrapG, dstOK, setD, Op.operands, Nat.reduceLT, true_and, and_self, implies_true, List.nil_append, List.cons_append, List.append_nil, hN]
        refine V_loop (α := Nat) ⟨tabOK, mixed, gok_laws_FnIsRedundant, hok_laws_FnIsRedundant⟩ (by kernel_rfl) (fun n => n ≤ B.length) (fun n => ⟨[(11, .num .i64 n), (10, .bool ((B.take n).any (q == ·))), (9, .num .i64 j), (8, .sl 4 (encQs B)), (7, .sl 4 (encQs A))], []⟩) (fun n => B.length - n) 0 id (Nat.zero_le _) (by simp [SLe, SLe0, convTm, convHp, conv, conv0, lkT, lkH, clean]) ?_
        intro n hn
        simp only [V_seq, V_region, V_cond, W_nil, W_cons, effOp2, KN_seq, asB, effOp, effPure, pureV, binV, lenV, strip, lkT, ISt.app, opI, gO, gB, allB, gval, wrapG, dstOK, setD, Op.operands, Call.operands, List.append_toArray, reduceIte, reduceCtorEq, Nat.reduceLT, Nat.reduceEqDiff, ne_eq, not_false_eq_true, true_and, and_self, implies_true, List.nil_append, List.cons_append, List.append_nil, tab25, hN, eB]
        refine brW_some (fun h => ?_) (fun h => ?_)
        · have hn' : n < B.length := by simpa using h
          have g1 := getD_encQs hn'
          have hw3 := wr_succ hn' (by rw [maxLen_eq]; omega)
          have hst : (B.take (n + 1)).any (q == ·) = ((B.take n).any (q == ·) || (q == qAt B n)) := by
            rw [take_succ_g (d := ((0, 0), (0, 0))) hn', List.any_append]; simp
          generalize qAt B n = r at *
          cases h7 : (B.take n).any (q == ·) with
          | true =>
            rw [h7, Bool.true_or] at hst
            simp only [V_seq, V_skip, V_block, V_region, V_draw, drawW, pairsOf, W_nil, W_cons, WD_nil, WD_cons, effOp2, KN_seq, KN_block, KN_back, effOp, effPure, effPick, pureV, pickV, binV, partV, eltV, loadV, iaddrV, ofC, strip, lkT, ISt.app, opI, gO, gB, allB, gval, wrapG, dstOK, setD, eqL, numsOnly, Op.operands, reduceIte, reduceCtorEq, cond_true, Bool.and_true, Nat.reduceAdd, Nat.reduceLT, Nat.reduceLeDiff, Nat.reduceEqDiff, Nat.zero_add, ne_eq, not_false_eq_true, true_and, and_true, false_and, and_false, and_self, false_implies, implies_true, List.nil_append, List.cons_append, List.append_nil, Option.bind_some, List.getElem?_cons_zero, List.getElem?_cons_succ, List.getD_cons_zero, List.length_cons, List.length_nil, List.take_succ_cons, List.take_nil, List.drop_zero, btf, Bool.true_eq_false, Bool.false_eq_true, tab25, tab39, hN, Int.toNat_natCast, ea, eB, g0, g1, hw3, eqQ]
            repeat refine And.intro (by first | omega | (simp; done) | (simp; omega)) ?_
            refine ⟨n + 1, id, by simp only []; omega, by simp only []; omega, ?_⟩
            simp only [hst]
            exact by simp [SLe, SLe0, convTm, convHp, conv, conv0, lkT, lkH, clean]
          | false =>
            rw [h7, Bool.false_or] at hst
            simp only [V_seq, V_skip, V_block, V_region, V_draw, drawW, pairsOf, W_nil, W_cons, WD_nil, WD_cons, effOp2, KN_seq, KN_block, KN_back, effOp, effPure, effPick, pureV, pickV, binV, partV, eltV, loadV, iaddrV, ofC, strip, lkT, ISt.app, opI, gO, gB, allB, gval, wrapG, dstOK, setD, eqL, numsOnly, Op.operands, reduceIte, reduceCtorEq, cond_false, Bool.and_true, Nat.reduceAdd, Nat.reduceLT, Nat.reduceLeDiff, Nat.reduceEqDiff, Nat.zero_add, ne_eq, not_false_eq_true, beq_self_eq_true, true_and, and_true, and_false, and_self, implies_true, forall_const, List.nil_append, List.cons_append, List.append_nil, Option.bind_some, List.getElem?_cons_zero, List.getElem?_cons_succ, List.getD_cons_zero, List.length_cons, List.length_nil, List.take_succ_cons, List.take_nil, List.drop_zero, Bool.false_eq_true, tab25, tab39, hN, Int.toNat_natCast, ea, eB, g0, g1, hw3, eqQ]
            repeat refine And.intro (by first | omega | (simp; done) | (simp; omega)) ?_
            refine ⟨n + 1, id, by simp only []; omega, by simp only []; omega, ?_⟩
            simp only [hst]
            exact by simp [SLe, SLe0, convTm, convHp, conv, conv0, lkT, lkH, clean]
        · have hne : n = B.length := by simp at h; omega
          subst hne
          have hany : (B.take B.length).any (q == ·) = true := by
            rw [List.take_length, List.any_eq_true]; exact ⟨q, hqm, by simp⟩
          simp only [V_seq, V_skip, V_ret, V_exit, V_region, V_cond, brW_false, W_nil, W_cons, effOp2, KN_seq, KN_block, KN_back, KXr_nil, KXe_nil, KXe_seq, KXe_block, KXe_back, QE, asB, effOp, effPure, pureV, binV, lenV, ofC, strip, lkT, lkH, ISt.app, opI, gO, gB, allB, gval, wrapG, dstOK, setD, clean, Gives, Ideal.Fin, conv, conv0, Op.operands, Call.operands, List.append_toArray, reduceIte, reduceCtorEq, Bool.not_true, Nat.reduceLT, Nat.reduceEqDiff, ne_eq, not_false_eq_true, true_and, and_true, and_self, implies_true, List.nil_append, List.cons_append, List.append_nil, tab4, tab25, hN, hany, hw2]
          exact ⟨j + 1, id, by simp only []; omega, by simp only []; omega, by simp [SLe, SLe0, convTm, convHp, conv, conv0, lkT, lkH, clean]⟩
      · have hje : j = A.length := by simp at h; omega
        subst hje
        have hfin : ((A.length : Int) == 0) = ((B.length : Int) == 0) := by
          rw [Bool.eq_iff_iff]
          simp only [beq_iff_eq]
          rw [← List.length_eq_zero_iff, ← List.length_eq_zero_iff] at hem
          omega
        simp only [V_seq, V_ret, V_exit, V_region, W_nil, W_cons, effOp2, KN_seq, KXr_nil, KXe_nil, KXe_seq, KXe_block, KXe_back, QE, effOp, effPure, pureV, binV, lenV, ofC, strip, lkT, lkH, ISt.app, opI, gO, gB, allB, gval, wrapG, dstOK, setD, clean, Gives, Ideal.Fin, conv, conv0, Op.operands, Call.operands, List.append_toArray, reduceIte, reduceCtorEq, Nat.reduceLT, Nat.reduceEqDiff, ne_eq, not_false_eq_true, beq_self_eq_true, and_self, implies_true, List.nil_append, List.cons_append, List.append_nil, tab4, tab25, hN, ea, eB, hfin]
def sp_laws_FnIsRedundant : PSpec := ⟨fun xs => match xs with | [.sl 1 bes] => isBy bes ∧ ((fun (b : List Int) => ∀ x ∈ b, 0 ≤ x ∧ x < 256) (toIs bes)) | _ => False, fun xs => match xs with | [.sl _ bes] => (fun (b : List Int) => .bool true) (toIs bes) | _ => .junk, false⟩
theorem gk_laws_FnIsRedundant : ∀ args, sp_laws_FnIsRedundant.pre args → ICall Try.prog 4 args (sp_laws_FnIsRedundant.val args) := by
  intro args h
  unfold sp_laws_FnIsRedundant at h ⊢; simp only at h ⊢; split at h
  · obtain ⟨h0, h1⟩ := h
    obtain ⟨l0, rfl⟩ := isBy_ex h0
    simp only [toBy_enc] at *
    exact c_laws_FnIsRedundant _ h1
  · exact h.elim
theorem en_laws_FnIsRedundant : Enters Try.prog 4 := enters_of Try.func4 (by kernel_rfl) rfl

end Go.Proofs.Ytjlcbomigbolcaa
