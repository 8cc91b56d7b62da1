/- Drawn half-planes and indices: spec.DrawEmptyWitness, spec.DrawCheckEmpty. -/
import Derived.Test.YtemppebemahkoaaB64
import Derived.Test.YtemppebemahkoaaBD
set_option linter.unusedVariables false
set_option linter.unusedSimpArgs false
set_option maxHeartbeats 1600000
set_option maxRecDepth 100000
namespace Go.Proofs.Ytemppebemahkoaa
open Go Go.Ideal Go.Pl Go.Sort

theorem hNum_lt {b : List Int} (hb : BytesOK b) {p : Nat} (hp : p ≤ 700000) : hNum b p < 6 := by
  have h1 := pick_nonneg hb (show p ≤ 1000000000 by omega) 6
  have h2 := h1.2.1 (by omega)
  unfold hNum; omega
theorem aHalves_pos {b : List Int} (hb : BytesOK b) {p : Nat} (hp : p ≤ 700000) : (aHalves b p).2 ≤ p + 60 ∧ (aHalves b p).1.length ≤ 9 := by
  have h := hNum_lt hb hp
  have hL := hLoop_len b (hNum b p) (p + 1)
  unfold aHalves
  simp only []
  split
  · exact ⟨by simp only []; omega, by simp only []; omega⟩
  · split
    · exact ⟨by simp only []; omega, by simp only [List.length_set]; omega⟩
    · split
      · exact ⟨by simp only []; omega, by simp only [List.length_set]; omega⟩
      · split
        · exact ⟨by simp only []; omega, by simp only [List.length_append, hLoop_len]; omega⟩
        · exact ⟨by simp only []; omega, by simp only []; omega⟩
def negT (t : Tr) : Tr := (IntKind.i64.wrap (-t.1), IntKind.i64.wrap (-t.2.1), IntKind.i64.wrap (IntKind.i64.wrap (-t.2.2) - 1))
/-- The half-planes that a code draws, two of them apart at times. -/
def drawEW (b : List Int) : List Tr :=
  if 1 < (aHalves (b.take 2000) 0).1.length ∧ pickI (b.take 2000) (aHalves (b.take 2000) 0).2 2 = 0 then (aHalves (b.take 2000) 0).1.set 1 (negT (tAt (aHalves (b.take 2000) 0).1 0)) else (aHalves (b.take 2000) 0).1
theorem drawEW_len {b : List Int} (hb : ∀ x ∈ b, 0 ≤ x ∧ x < 256) : (drawEW b).length ≤ 9 := by
  have h := (aHalves_pos (bytes_take hb) (Nat.zero_le 700000)).2
  unfold drawEW
  split
  · rw [List.length_set]; exact h
  · exact h
def g_spec_DrawEmptyWitness : List (Nat × PSpec) := []
theorem gok_spec_DrawEmptyWitness : GOK Try.prog g_spec_DrawEmptyWitness := gok0
def h_spec_DrawEmptyWitness : List (Nat × HSpec) := [(65, hs_spec_newReader), (95, hs_spec_anyHalves), (89, hs_spec_reader_pick)]
theorem hok_spec_DrawEmptyWitness : HOK Try.prog h_spec_DrawEmptyWitness := hok_cons hk_spec_newReader en_spec_newReader (hok_cons hk_spec_anyHalves en_spec_anyHalves (hok_cons hk_spec_reader_pick en_spec_reader_pick (hok0)))
theorem lh_spec_DrawEmptyWitness_spec_newReader : lkHS h_spec_DrawEmptyWitness 65 = some hs_spec_newReader := rfl
theorem lh_spec_DrawEmptyWitness_spec_anyHalves : lkHS h_spec_DrawEmptyWitness 95 = some hs_spec_anyHalves := rfl
theorem lh_spec_DrawEmptyWitness_spec_reader_pick : lkHS h_spec_DrawEmptyWitness 89 = some hs_spec_reader_pick := rfl
theorem c_spec_DrawEmptyWitness (b : List Int) (hb : ∀ x ∈ b, 0 ≤ x ∧ x < 256) (hsz : b.length ≤ 1048576) : ICall Try.prog 37 [.sl 1 (encBy b)] (.sl 3 (encTs (drawEW b))) := by
  refine icall_V (G := g_spec_DrawEmptyWitness) (H := h_spec_DrawEmptyWitness) [] tabOK mixed gok_spec_DrawEmptyWitness hok_spec_DrawEmptyWitness Try.func37 rfl Try.ntmps37 Try.results37 rfl (by kernel_rfl) fun F hN hlen => ?_
  have hbt := bytes_take hb
  have hpos := aHalves_pos hbt (Nat.zero_le 700000)
  have hD : ∀ a, aHalves (b.take 2000) 0 = a → drawEW b = if 1 < a.1.length ∧ pickI (b.take 2000) a.2 2 = 0 then a.1.set 1 (negT (tAt a.1 0)) else a.1 := by intro a ha; subst ha; rfl
  obtain ⟨a, ha⟩ : ∃ a, aHalves (b.take 2000) 0 = a := ⟨_, rfl⟩
  have hd := hD a ha
  clear hD
  rw [ha] at hpos
  obtain ⟨L, p1⟩ := a
  simp only [] at hd hpos
  obtain ⟨hp1, hl9⟩ := hpos
  have hp2 : p1 ≤ 1000000 := by omega
  have el := len_encTs L
  have tl := take_encTs L
  by_cases c1 : 1 < L.length
  · have d1 : decide ((1 : Int) < (L.length : Int)) = true := decide_eq_true (by omega)
    by_cases c2 : pickI (b.take 2000) p1 2 = 0
    · have d2 : (pickI (b.take 2000) p1 2 == 0) = true := by simpa using c2
      rw [if_pos ⟨c1, c2⟩] at hd
      have hset := encTs_setD L 1 (negT (tAt L 0))
      have g0 := getD_encTs (l := L) (i := 0) (by omega)
      have q0 : Int.toNat 0 = 0 := rfl
      have q1 : Int.toNat 1 = 1 := rfl
      simp only [negT] at hset
      simp only [V_seq, V_ret, V_region, V_draw, V_cond, brW_true, drawW, pairsOf, W_nil, W_cons, WD_nil, WD_cons, effOp2, effOp3, KN_seq, KXr_nil, QE, asB, effOp, effPure, effPick, effStore, Option.isSome_some, skipE, pureV, pickV, storeV, binV, partV, eltV, loadV, faddrV, iaddrV, lenV, over, solid, buildL, IV.cells, ofC, strip, lkT, lkH, ISt.app, opI, gO, gB, allB, gval, wrapG, dstOK, setD, mentTm, mentHp, IV.ment, IV.mentL, eltI, oneI, noId', lendV, lendP, lent, lentP, idsV, idsL, clean, callArgs, callFn, enumT, Gives, Ideal.Fin, conv, conv0, convL, IBlk.shape, Op.operands, Call.operands, List.append_toArray, reduceIte, reduceCtorEq, cond_true, cond_false, Bool.or_false, Bool.or_true, Bool.and_true, Bool.and_false, Bool.true_and, Bool.not_false, Nat.reduceAdd, Nat.reduceSub, Nat.reduceMul, Nat.reduceLT, Nat.reduceLeDiff, Nat.reduceEqDiff, Nat.reduceBEq, Nat.add_zero, Nat.zero_add, ne_eq, not_false_eq_true, beq_self_eq_true, true_and, and_true, and_false, and_self, false_implies, implies_true, forall_const, List.map_cons, List.map_nil, List.nil_append, List.cons_append, List.append_nil, List.all_cons, List.all_nil, Option.some.injEq, Option.map_some, Option.map_none, Option.bind_some, List.getElem?_cons_zero, List.getElem?_cons_succ, List.getD_cons_zero, List.getD_cons_succ, List.length_cons, List.length_nil, List.take_succ_cons, List.take_zero, List.take_nil, List.drop_succ_cons, List.drop_zero, List.drop_nil, ex_clo, or_self, Bool.true_eq_false, Bool.false_eq_true, tab3, tab43, tab98, hN, Int.toNat_natCast, isBy_enc, toBy_enc, SLe0, convTm, convHp, convB, sm, effH, mkHC0, mkHC1, lendM, lentM, lentI, allHere, addIds, idsB, flatIds, reach, posn, renV, renL, renB, renH, numB, subHp, fwd, bk, bwd, nones, keyOK, noSl, noSlL, flatBs, List.contains, List.elem, Option.isSome_some, Option.isSome_none, List.nodup_nil, List.nodup_cons, List.not_mem_nil, List.mem_cons, or_false, Option.getD_some, lh_spec_DrawEmptyWitness_spec_newReader, lh_spec_DrawEmptyWitness_spec_anyHalves, lh_spec_DrawEmptyWitness_spec_reader_pick, hs_spec_newReader, hs_spec_anyHalves, hs_spec_reader_pick, rdr, hsz, hbt, ha, el, d1, d2, hd, hp2, g0, q0, q1, ← hset, negT]
      refine ⟨tl.symm, by omega, ⟨by omega, by omega⟩, ⟨_, _, _, rfl⟩, by omega, ⟨by omega, by omega⟩, ⟨_, _, _, rfl⟩, by omega, ⟨by omega, by omega⟩, ⟨_, _, _, rfl⟩, by omega, ⟨by omega, by omega⟩, by omega, _, _, rfl, by rw [List.length_set]; omega, (List.take_of_length_le (by rw [List.length_set]; omega)).symm⟩
    · have d2 : (pickI (b.take 2000) p1 2 == 0) = false := by simpa using c2
      rw [if_neg (fun h => c2 h.2)] at hd
      simp only [V_seq, V_skip, V_ret, V_region, V_cond, brW_false, W_nil, W_cons, effOp2, KN_seq, KXr_nil, QE, asB, effOp, effPure, effPick, Option.isSome_some, skipE, pureV, pickV, binV, lenV, ofC, strip, lkT, lkH, ISt.app, opI, gO, gB, allB, gval, wrapG, dstOK, setD, mentTm, mentHp, IV.ment, IV.mentL, lendV, lendP, lent, lentP, idsV, idsL, clean, callArgs, callFn, enumT, Gives, Ideal.Fin, conv, conv0, convL, IBlk.shape, Op.operands, Call.operands, List.append_toArray, reduceIte, reduceCtorEq, cond_true, cond_false, Bool.or_false, Bool.or_true, Bool.and_true, Bool.and_false, Bool.not_false, Nat.reduceAdd, Nat.reduceSub, Nat.reduceMul, Nat.reduceLT, Nat.reduceLeDiff, Nat.reduceEqDiff, Nat.reduceBEq, Nat.add_zero, Nat.zero_add, ne_eq, not_false_eq_true, beq_self_eq_true, true_and, and_true, and_false, and_self, false_implies, implies_true, List.map_cons, List.map_nil, List.nil_append, List.cons_append, List.append_nil, List.all_nil, Option.some.injEq, Option.map_some, Option.map_none, Option.bind_some, List.getElem?_cons_zero, List.getElem?_cons_succ, List.getD_cons_zero, List.drop_zero, ex_clo, or_self, Bool.true_eq_false, Bool.false_eq_true, tab43, hN, Int.toNat_natCast, isBy_enc, toBy_enc, SLe0, convTm, convHp, convB, sm, effH, mkHC0, mkHC1, lendM, lentM, lentI, allHere, addIds, idsB, flatIds, reach, posn, renV, renL, renB, renH, numB, subHp, fwd, bk, bwd, nones, keyOK, noSl, noSlL, flatBs, List.contains, List.elem, Option.isSome_some, Option.isSome_none, List.nodup_nil, List.nodup_cons, List.not_mem_nil, List.mem_cons, or_false, Option.getD_some, lh_spec_DrawEmptyWitness_spec_newReader, lh_spec_DrawEmptyWitness_spec_anyHalves, lh_spec_DrawEmptyWitness_spec_reader_pick, hs_spec_newReader, hs_spec_anyHalves, hs_spec_reader_pick, rdr, hsz, hbt, ha, el, d1, d2, hd, hp2, tl]
      exact ⟨by omega, _, _, rfl, by omega, tl.symm⟩
  · have d1 : decide ((1 : Int) < (L.length : Int)) = false := decide_eq_false (by omega)
    rw [if_neg (fun h => c1 h.1)] at hd
    simp only [V_seq, V_skip, V_ret, V_region, V_cond, brW_false, W_nil, W_cons, effOp2, KN_seq, KXr_nil, QE, asB, effOp, effPure, effPick, Option.isSome_some, skipE, pureV, pickV, binV, lenV, ofC, strip, lkT, lkH, ISt.app, opI, gO, gB, allB, gval, wrapG, dstOK, setD, mentTm, mentHp, IV.ment, IV.mentL, lendV, lendP, lent, lentP, idsV, idsL, clean, callArgs, callFn, enumT, Gives, Ideal.Fin, conv, conv0, convL, IBlk.shape, Op.operands, Call.operands, List.append_toArray, reduceIte, reduceCtorEq, cond_true, cond_false, Bool.or_false, Bool.or_true, Bool.and_true, Bool.and_false, Bool.not_false, Nat.reduceAdd, Nat.reduceSub, Nat.reduceMul, Nat.reduceLT, Nat.reduceLeDiff, Nat.reduceEqDiff, Nat.reduceBEq, Nat.add_zero, Nat.zero_add, ne_eq, not_false_eq_true, beq_self_eq_true, true_and, and_true, false_and, and_false, and_self, false_implies, implies_true, List.map_cons, List.map_nil, List.nil_append, List.cons_append, List.append_nil, List.all_nil, Option.some.injEq, Option.map_some, Option.map_none, Option.bind_some, List.getElem?_cons_zero, List.getElem?_cons_succ, List.getD_cons_zero, List.drop_zero, ex_clo, bft, or_self, Bool.true_eq_false, Bool.false_eq_true, tab43, hN, Int.toNat_natCast, isBy_enc, toBy_enc, SLe0, convTm, convHp, convB, sm, effH, mkHC0, mkHC1, lendM, lentM, lentI, allHere, addIds, idsB, flatIds, reach, posn, renV, renL, renB, renH, numB, subHp, fwd, bk, bwd, nones, keyOK, noSl, noSlL, flatBs, List.contains, List.elem, Option.isSome_some, Option.isSome_none, List.nodup_nil, List.nodup_cons, List.not_mem_nil, List.mem_cons, or_false, Option.getD_some, lh_spec_DrawEmptyWitness_spec_newReader, lh_spec_DrawEmptyWitness_spec_anyHalves, lh_spec_DrawEmptyWitness_spec_reader_pick, hs_spec_newReader, hs_spec_anyHalves, hs_spec_reader_pick, rdr, hsz, hbt, ha, el, d1, hd, hp2, tl]
    exact ⟨_, _, rfl, by omega, tl.symm⟩
def sp_spec_DrawEmptyWitness : PSpec := ⟨fun xs => match xs with | [.sl 1 bes] => isBy bes ∧ ((fun (b : List Int) => ∀ x ∈ b, 0 ≤ x ∧ x < 256) (toIs bes)) ∧ ((fun (b : List Int) => b.length ≤ 1048576) (toIs bes)) | _ => False, fun xs => match xs with | [.sl _ bes] => (fun (b : List Int) => .sl 3 (encTs (drawEW b))) (toIs bes) | _ => .junk, false⟩
theorem gk_spec_DrawEmptyWitness : ∀ args, sp_spec_DrawEmptyWitness.pre args → ICall Try.prog 37 args (sp_spec_DrawEmptyWitness.val args) := by
  intro args h
  unfold sp_spec_DrawEmptyWitness at h ⊢; simp only at h ⊢; split at h
  · obtain ⟨h0, h1, h2⟩ := h
    obtain ⟨l0, rfl⟩ := isBy_ex h0
    simp only [toBy_enc] at *
    exact c_spec_DrawEmptyWitness _ h1 h2
  · exact h.elim
theorem en_spec_DrawEmptyWitness : Enters Try.prog 37 := enters_of Try.func37 (by kernel_rfl) rfl


def wLoop (b : List Int) (m : Int) : Nat → Nat → List Int
  | 0, _ => []
  | n + 1, p => pickI b p m :: wLoop b m n (p + 1)
theorem wLoop_len (b : List Int) (m : Int) : ∀ n p, (wLoop b m n p).length = n
  | 0, _ => rfl
  | n + 1, p => by simp [wLoop, wLoop_len b m n]
theorem wLoop_succ (b : List Int) (m : Int) : ∀ n p, wLoop b m (n + 1) p = wLoop b m n p ++ [pickI b (p + n) m]
  | 0, p => by simp [wLoop]
  | n + 1, p => by
    rw [wLoop, wLoop_succ b m n (p + 1), wLoop]
    simp [show p + 1 + n = p + (n + 1) by omega]
theorem encI_app2 (a b : List Int) : encI a ++ encI b = encI (a ++ b) := by simp [encI]
/-- The indices that a code draws. -/
def drawCW (b : List Int) : List Int :=
  match ewV (drawEW b) with
  | some w => if pickI (b.take 2000) 0 3 = 0 then wLoop (b.take 2000) (((drawEW b).length : Int) + 1) (pickI (b.take 2000) 1 5).toNat (1 + 1) else natI w
  | none => wLoop (b.take 2000) (((drawEW b).length : Int) + 1) (pickI (b.take 2000) 0 5).toNat (0 + 1)
def g_spec_DrawCheckEmpty : List (Nat × PSpec) := [(37, sp_spec_DrawEmptyWitness), (28, sp_spec_EmptyWitness)]
theorem gok_spec_DrawCheckEmpty : GOK Try.prog g_spec_DrawCheckEmpty := gok_cons gk_spec_DrawEmptyWitness en_spec_DrawEmptyWitness (gok_cons gk_spec_EmptyWitness en_spec_EmptyWitness (gok0))
theorem lk_spec_DrawCheckEmpty_spec_DrawEmptyWitness : lkG g_spec_DrawCheckEmpty 37 = sp_spec_DrawEmptyWitness := rfl
theorem lk_spec_DrawCheckEmpty_spec_EmptyWitness : lkG g_spec_DrawCheckEmpty 28 = sp_spec_EmptyWitness := rfl
def h_spec_DrawCheckEmpty : List (Nat × HSpec) := [(65, hs_spec_newReader), (89, hs_spec_reader_pick)]
theorem hok_spec_DrawCheckEmpty : HOK Try.prog h_spec_DrawCheckEmpty := hok_cons hk_spec_newReader en_spec_newReader (hok_cons hk_spec_reader_pick en_spec_reader_pick (hok0))
theorem lh_spec_DrawCheckEmpty_spec_DrawEmptyWitness : lkHS h_spec_DrawCheckEmpty 37 = none := rfl
theorem lh_spec_DrawCheckEmpty_spec_EmptyWitness : lkHS h_spec_DrawCheckEmpty 28 = none := rfl
theorem lh_spec_DrawCheckEmpty_spec_newReader : lkHS h_spec_DrawCheckEmpty 65 = some hs_spec_newReader := rfl
theorem lh_spec_DrawCheckEmpty_spec_reader_pick : lkHS h_spec_DrawCheckEmpty 89 = some hs_spec_reader_pick := rfl
theorem c_spec_DrawCheckEmpty (b : List Int) (hb : ∀ x ∈ b, 0 ≤ x ∧ x < 256) (hsz : b.length ≤ 1048576) : ICall Try.prog 33 [.sl 1 (encBy b)] (.tup [.sl 3 (encTs (drawEW b)), .sl 1 (encI (drawCW b))]) := by
  refine icall_V (G := g_spec_DrawCheckEmpty) (H := h_spec_DrawCheckEmpty) [] tabOK mixed gok_spec_DrawCheckEmpty hok_spec_DrawCheckEmpty Try.func33 rfl Try.ntmps33 Try.results33 rfl (by kernel_rfl) fun F hN hlen => ?_
  have hbt := bytes_take hb
  have hD : drawCW b = match ewV (drawEW b) with
    | some w => if pickI (b.take 2000) 0 3 = 0 then wLoop (b.take 2000) (((drawEW b).length : Int) + 1) (pickI (b.take 2000) 1 5).toNat (1 + 1) else natI w
    | none => wLoop (b.take 2000) (((drawEW b).length : Int) + 1) (pickI (b.take 2000) 0 5).toNat (0 + 1) := rfl
  have hlen := drawEW_len hb
  obtain ⟨l, hl⟩ : ∃ l, drawEW b = l := ⟨_, rfl⟩
  rw [hl] at hD hlen
  have el := len_encTs l
  cases hc : ewV l with
  | none =>
      rw [hc] at hD
      have ho : optS (ewV l) = .tup [.sl 1 [], .bool false] := by rw [hc]; rfl
      have hd : drawCW b = wLoop (b.take 2000) ((l.length : Int) + 1) (pickI (b.take 2000) 0 5).toNat (0 + 1) := hD
      have pk5 := pick_nonneg hbt (show 0 ≤ 1000000000 by omega) 5
      have lt5 := pk5.2.1 (by omega)
      have hP : (0 : Nat) ≤ 1000000 := by omega
      obtain ⟨n, hn⟩ : ∃ n, (pickI (b.take 2000) 0 5).toNat = n := ⟨_, rfl⟩
      have n2 : pickI (b.take 2000) 0 5 = (n : Int) := by omega
      rw [hn] at hd
      simp only [V_seq, V_block, V_region, V_cond, brW_true, W_nil, W_cons, effOp2, KN_seq, asB, effOp, effPure, effPick, effNew, effBuildSlice, effFrz, frz, tmpsOf, effCall, giveUp, hasAll, Option.isSome_some, skipE, pureV, pickV, binV, ofC, strip, lkT, lkH, ISt.app, opI, gO, gB, allB, gval, wrapG, dstOK, setD, mentTm, mentHp, IV.ment, IV.mentL, partsL, eltsI, lendV, lendP, lent, lentP, idsV, idsL, flat, flatL, clean, cleanL, callArgs, callFn, allLent, enumT, conv, conv0, convL, IBlk.shape, Op.operands, reduceIte, reduceCtorEq, cond_true, cond_false, Bool.or_false, Bool.or_true, Bool.and_true, Bool.not_true, Bool.not_false, Nat.reduceAdd, Nat.reduceSub, Nat.reduceMul, Nat.reduceLT, Nat.reduceLeDiff, Nat.reduceEqDiff, Nat.reduceBEq, Nat.add_zero, Nat.zero_add, ne_eq, not_false_eq_true, beq_self_eq_true, true_and, and_true, false_and, and_false, and_self, false_implies, implies_true, forall_const, List.map_cons, List.map_nil, List.nil_append, List.cons_append, List.append_nil, List.all_nil, Option.map_some, Option.map_none, Option.bind_some, List.getElem?_cons_zero, List.getElem?_cons_succ, List.getD_cons_zero, List.getD_cons_succ, List.length_cons, List.length_nil, ex_clo, btf, or_true, Bool.true_eq_false, Bool.false_eq_true, tab3, tab25, hN, Int.toNat_natCast, isTs_enc, toTs_enc, isBy_enc, toBy_enc, SLe0, convTm, convHp, convB, sm, effH, mkHC0, mkHC1, lendM, lentM, lentI, allHere, addIds, idsB, flatIds, reach, posn, renV, renL, renB, renH, numB, subHp, fwd, bk, bwd, nones, keyOK, noSl, noSlL, flatBs, List.contains, List.elem, Option.isSome_some, List.nodup_nil, List.nodup_cons, List.not_mem_nil, or_false, Option.getD_some, lk_spec_DrawCheckEmpty_spec_DrawEmptyWitness, lk_spec_DrawCheckEmpty_spec_EmptyWitness, sp_spec_DrawEmptyWitness, sp_spec_EmptyWitness, lh_spec_DrawCheckEmpty_spec_DrawEmptyWitness, lh_spec_DrawCheckEmpty_spec_EmptyWitness, lh_spec_DrawCheckEmpty_spec_newReader, lh_spec_DrawCheckEmpty_spec_reader_pick, hs_spec_newReader, hs_spec_reader_pick, rdr, hsz, hbt, hl, ho, hP, n2]
      refine ⟨hb, by omega, ?_⟩
      refine V_loop (α := Nat) ⟨tabOK, mixed, gok_spec_DrawCheckEmpty, hok_spec_DrawCheckEmpty⟩ (by kernel_rfl) (fun i => i ≤ n) (fun i => ⟨[(8, .num .i64 ((n - i : Nat) : Int)), (6, .ref 25 0 i true), (5, .ptr 2192 0), (4, .sl 3 (encTs l))], [(25, some (.arr 1 3 (encI (wLoop (b.take 2000) ((l.length : Int) + 1) i (0 + 1))))), (2192, some (rdr (b.take 2000) (0 + 1 + i)))]⟩) (fun i => n - i) 0 id (Nat.zero_le _)
        (by simp [SLe, SLe0, convTm, convHp, convB, conv, conv0, convL, lkT, lkH, clean, wLoop, encI, rdr]) ?_
      intro i hi
      have ln : (encI (wLoop (b.take 2000) ((l.length : Int) + 1) i (0 + 1))).length = i := by rw [len_encI, wLoop_len]
      simp only [V_seq, V_region, V_cond, W_nil, W_cons, effOp2, KN_seq, asB, effOp, effPure, pureV, binV, ofC, strip, lkT, ISt.app, opI, gO, gB, allB, gval, wrapG, dstOK, setD, Op.operands, reduceIte, Nat.reduceLT, Nat.reduceEqDiff, Nat.zero_add, true_and, and_self, implies_true, List.nil_append, List.cons_append, hN, rdr]
      refine brW_some (fun h => ?_) (fun h => ?_)
      · have hlt : i < n := by simp at h; omega
        have w2 : IntKind.i64.wrap (((n - i : Nat) : Int) - 1) = ((n - (i + 1) : Nat) : Int) := by rw [wr (by omega) (by omega)]; omega
        have w3 : IntKind.i64.wrap ((l.length : Int) + 1) = (l.length : Int) + 1 := wr (by omega) (by omega)
        have hs := wLoop_succ (b.take 2000) ((l.length : Int) + 1) i (0 + 1)
        have hle : 0 + 1 + i ≤ 1000000 := by omega
        have hle2 : (l.length : Int) + 1 ≤ 1000000 := by omega
        have hen : encI (wLoop (b.take 2000) ((l.length : Int) + 1) (i + 1) (0 + 1)) = (encI (wLoop (b.take 2000) ((l.length : Int) + 1) i (0 + 1))).take i ++ [IV.num .i64 (pickI (b.take 2000) (0 + 1 + i) ((l.length : Int) + 1))] := by
          have ht : (encI (wLoop (b.take 2000) ((l.length : Int) + 1) i (0 + 1))).take i = encI (wLoop (b.take 2000) ((l.length : Int) + 1) i (0 + 1)) := List.take_of_length_le (by omega)
          rw [hs, ← encI_app2, ht]; rfl
        simp only [V_seq, V_skip, V_block, V_region, W_nil, W_cons, effOp2, KN_seq, KN_block, KN_back, effOp, effPure, effNew, effBuildSlice, effFrz, frz, tmpsOf, effAppend, effZeros, Option.isSome_some, skipE, pureV, srcV, refId, binV, lenV, ofC, strip, lkT, lkH, ISt.app, opI, gO, gB, allB, gval, wrapG, dstOK, setD, mentTm, mentHp, IV.ment, IV.mentL, partsL, eltsI, eltI, noId', idsV, idsL, clean, callArgs, callFn, enumT, conv, conv0, convL, IBlk.shape, Op.operands, Call.operands, List.append_toArray, reduceIte, reduceCtorEq, cond_true, cond_false, Bool.or_false, Bool.or_true, Bool.and_true, Nat.reduceAdd, Nat.reduceSub, Nat.reduceMul, Nat.reduceLT, Nat.reduceLeDiff, Nat.reduceEqDiff, Nat.reduceBEq, Nat.zero_add, ne_eq, not_false_eq_true, beq_self_eq_true, true_and, and_true, and_false, and_self, implies_true, List.map_cons, List.map_nil, List.nil_append, List.cons_append, List.append_nil, List.all_nil, Option.some.injEq, Option.map_some, List.getD_cons_zero, List.length_cons, List.length_nil, List.take_succ_cons, List.take_nil, List.drop_zero, ex_clo, Bool.true_eq_false, Bool.false_eq_true, tab3, tab25, tab43, hN, Int.toNat_natCast, isBy_enc, toBy_enc, SLe0, convTm, convHp, convB, sm, effH, mkHC0, mkHC1, lendM, lentM, lentI, allHere, addIds, idsB, flatIds, reach, posn, renV, renL, renB, renH, numB, subHp, fwd, bk, bwd, nones, keyOK, noSl, noSlL, flatBs, List.contains, List.elem, Option.isSome_some, List.nodup_nil, List.nodup_cons, List.not_mem_nil, or_false, Option.getD_some, lh_spec_DrawCheckEmpty_spec_reader_pick, hs_spec_reader_pick, rdr, hbt, el, w2, w3, hle, hle2, ln]
        repeat refine And.intro (by first | omega | (simp; done) | (simp; omega)) ?_
        refine ⟨i + 1, fun x => if x = 25 then 39 else x, by simp only []; omega, by simp only []; omega, ?_⟩
        simp only [hen]
        simp [SLe, SLe0, convTm, convHp, convB, conv, conv0, convL, lkT, lkH, clean]
        exact ⟨⟨(List.take_of_length_le (by rw [List.length_append, List.length_take]; exact Nat.le_refl _)).symm, by omega⟩, fun id a1 a2 a3 => by omega⟩
      · have hie : i = n := by simp at h; omega
        subst hie
        simp only [V_seq, V_ret, V_exit, V_region, W_nil, W_cons, effOp2, KN_seq, KXr_nil, KXe_nil, KXe_seq, KXe_block, KXe_back, QE, effOp, effPure, pureV, strip, lkT, lkH, ISt.app, opI, gO, gB, allB, gval, wrapG, dstOK, setD, Gives, Ideal.Fin, conv, conv0, Op.operands, reduceIte, Nat.reduceLT, Nat.reduceEqDiff, Nat.zero_add, ne_eq, true_and, and_true, and_self, false_implies, implies_true, List.nil_append, List.cons_append, Option.some.injEq, List.drop_zero, Bool.false_eq_true, hN, Option.isSome_none, hd]
        exact ⟨_, _, rfl, by rw [len_encI, wLoop_len]; exact Nat.le_refl _, (List.take_of_length_le (by rw [len_encI, wLoop_len]; exact Nat.le_refl _)).symm⟩
  | some w =>
    rw [hc] at hD
    have ho : optS (ewV l) = .tup [.sl 1 (encI (natI w)), .bool true] := by rw [hc]; rfl
    by_cases c3 : pickI (b.take 2000) 0 3 = 0
    · have d3 : (pickI (b.take 2000) 0 3 == 0) = true := by simpa using c3
      have hd : drawCW b = wLoop (b.take 2000) ((l.length : Int) + 1) (pickI (b.take 2000) 1 5).toNat (1 + 1) := by rw [hD]; simp only []; rw [if_pos c3]
      have pk5 := pick_nonneg hbt (show 1 ≤ 1000000000 by omega) 5
      have lt5 := pk5.2.1 (by omega)
      have hP : (1 : Nat) ≤ 1000000 := by omega
      obtain ⟨n, hn⟩ : ∃ n, (pickI (b.take 2000) 1 5).toNat = n := ⟨_, rfl⟩
      have n2 : pickI (b.take 2000) 1 5 = (n : Int) := by omega
      rw [hn] at hd
      simp only [V_seq, V_block, V_region, V_cond, brW_true, W_nil, W_cons, effOp2, KN_seq, asB, effOp, effPure, effPick, effNew, effBuildSlice, effFrz, frz, tmpsOf, effCall, giveUp, hasAll, Option.isSome_some, skipE, pureV, pickV, binV, ofC, strip, lkT, lkH, ISt.app, opI, gO, gB, allB, gval, wrapG, dstOK, setD, mentTm, mentHp, IV.ment, IV.mentL, partsL, eltsI, lendV, lendP, lent, lentP, idsV, idsL, flat, flatL, clean, cleanL, callArgs, callFn, allLent, enumT, conv, conv0, convL, IBlk.shape, Op.operands, reduceIte, reduceCtorEq, cond_true, cond_false, Bool.or_false, Bool.or_true, Bool.and_true, Bool.not_true, Bool.not_false, Nat.reduceAdd, Nat.reduceSub, Nat.reduceMul, Nat.reduceLT, Nat.reduceLeDiff, Nat.reduceEqDiff, Nat.reduceBEq, Nat.add_zero, Nat.zero_add, ne_eq, not_false_eq_true, beq_self_eq_true, true_and, and_true, and_false, and_self, implies_true, forall_const, List.map_cons, List.map_nil, List.nil_append, List.cons_append, List.append_nil, List.all_nil, Option.map_some, Option.map_none, Option.bind_some, List.getElem?_cons_zero, List.getElem?_cons_succ, List.getD_cons_zero, List.getD_cons_succ, List.length_cons, List.length_nil, ex_clo, or_true, Bool.true_eq_false, Bool.false_eq_true, tab3, tab25, hN, Int.toNat_natCast, isTs_enc, toTs_enc, isBy_enc, toBy_enc, SLe0, convTm, convHp, convB, sm, effH, mkHC0, mkHC1, lendM, lentM, lentI, allHere, addIds, idsB, flatIds, reach, posn, renV, renL, renB, renH, numB, subHp, fwd, bk, bwd, nones, keyOK, noSl, noSlL, flatBs, List.contains, List.elem, Option.isSome_some, List.nodup_nil, List.nodup_cons, List.not_mem_nil, or_false, Option.getD_some, lk_spec_DrawCheckEmpty_spec_DrawEmptyWitness, lk_spec_DrawCheckEmpty_spec_EmptyWitness, sp_spec_DrawEmptyWitness, sp_spec_EmptyWitness, lh_spec_DrawCheckEmpty_spec_DrawEmptyWitness, lh_spec_DrawCheckEmpty_spec_EmptyWitness, lh_spec_DrawCheckEmpty_spec_newReader, lh_spec_DrawCheckEmpty_spec_reader_pick, hs_spec_newReader, hs_spec_reader_pick, rdr, hsz, hbt, hl, ho, d3, hP, n2]
      refine ⟨hb, by omega, by omega, ?_⟩
      refine V_loop (α := Nat) ⟨tabOK, mixed, gok_spec_DrawCheckEmpty, hok_spec_DrawCheckEmpty⟩ (by kernel_rfl) (fun i => i ≤ n) (fun i => ⟨[(8, .num .i64 ((n - i : Nat) : Int)), (6, .ref 25 0 i true), (5, .ptr 2192 0), (4, .sl 3 (encTs l))], [(25, some (.arr 1 3 (encI (wLoop (b.take 2000) ((l.length : Int) + 1) i (1 + 1))))), (2192, some (rdr (b.take 2000) (1 + 1 + i)))]⟩) (fun i => n - i) 0 id (Nat.zero_le _)
        (by simp [SLe, SLe0, convTm, convHp, convB, conv, conv0, convL, lkT, lkH, clean, wLoop, encI, rdr]) ?_
      intro i hi
      have ln : (encI (wLoop (b.take 2000) ((l.length : Int) + 1) i (1 + 1))).length = i := by rw [len_encI, wLoop_len]
      simp only [V_seq, V_region, V_cond, W_nil, W_cons, effOp2, KN_seq, asB, effOp, effPure, pureV, binV, ofC, strip, lkT, ISt.app, opI, gO, gB, allB, gval, wrapG, dstOK, setD, Op.operands, reduceIte, Nat.reduceAdd, Nat.reduceLT, Nat.reduceEqDiff, true_and, and_self, implies_true, List.nil_append, List.cons_append, hN, rdr]
      refine brW_some (fun h => ?_) (fun h => ?_)
      · have hlt : i < n := by simp at h; omega
        have w2 : IntKind.i64.wrap (((n - i : Nat) : Int) - 1) = ((n - (i + 1) : Nat) : Int) := by rw [wr (by omega) (by omega)]; omega
        have w3 : IntKind.i64.wrap ((l.length : Int) + 1) = (l.length : Int) + 1 := wr (by omega) (by omega)
        have hs := wLoop_succ (b.take 2000) ((l.length : Int) + 1) i (1 + 1)
        have hle : 1 + 1 + i ≤ 1000000 := by omega
        have hle2 : (l.length : Int) + 1 ≤ 1000000 := by omega
        have hen : encI (wLoop (b.take 2000) ((l.length : Int) + 1) (i + 1) (1 + 1)) = (encI (wLoop (b.take 2000) ((l.length : Int) + 1) i (1 + 1))).take i ++ [IV.num .i64 (pickI (b.take 2000) (1 + 1 + i) ((l.length : Int) + 1))] := by
          have ht : (encI (wLoop (b.take 2000) ((l.length : Int) + 1) i (1 + 1))).take i = encI (wLoop (b.take 2000) ((l.length : Int) + 1) i (1 + 1)) := List.take_of_length_le (by omega)
          rw [hs, ← encI_app2, ht]; rfl
        simp only [V_seq, V_skip, V_block, V_region, W_nil, W_cons, effOp2, KN_seq, KN_block, KN_back, effOp, effPure, effNew, effBuildSlice, effFrz, frz, tmpsOf, effAppend, effZeros, Option.isSome_some, skipE, pureV, srcV, refId, binV, lenV, ofC, strip, lkT, lkH, ISt.app, opI, gO, gB, allB, gval, wrapG, dstOK, setD, mentTm, mentHp, IV.ment, IV.mentL, partsL, eltsI, eltI, noId', idsV, idsL, clean, callArgs, callFn, enumT, conv, conv0, convL, IBlk.shape, Op.operands, Call.operands, List.append_toArray, reduceIte, reduceCtorEq, cond_true, cond_false, Bool.or_false, Bool.or_true, Bool.and_true, Nat.reduceAdd, Nat.reduceSub, Nat.reduceMul, Nat.reduceLT, Nat.reduceLeDiff, Nat.reduceEqDiff, Nat.reduceBEq, Nat.zero_add, ne_eq, not_false_eq_true, beq_self_eq_true, true_and, and_true, and_false, and_self, implies_true, List.map_cons, List.map_nil, List.nil_append, List.cons_append, List.append_nil, List.all_nil, Option.some.injEq, Option.map_some, List.getD_cons_zero, List.length_cons, List.length_nil, List.take_succ_cons, List.take_nil, List.drop_zero, ex_clo, Bool.true_eq_false, Bool.false_eq_true, tab3, tab25, tab43, hN, Int.toNat_natCast, isBy_enc, toBy_enc, SLe0, convTm, convHp, convB, sm, effH, mkHC0, mkHC1, lendM, lentM, lentI, allHere, addIds, idsB, flatIds, reach, posn, renV, renL, renB, renH, numB, subHp, fwd, bk, bwd, nones, keyOK, noSl, noSlL, flatBs, List.contains, List.elem, Option.isSome_some, List.nodup_nil, List.nodup_cons, List.not_mem_nil, or_false, Option.getD_some, lh_spec_DrawCheckEmpty_spec_reader_pick, hs_spec_reader_pick, rdr, hbt, el, w2, w3, hle, hle2, ln]
        repeat refine And.intro (by first | omega | (simp; done) | (simp; omega)) ?_
        refine ⟨i + 1, fun x => if x = 25 then 39 else x, by simp only []; omega, by simp only []; omega, ?_⟩
        simp only [hen]
        simp [SLe, SLe0, convTm, convHp, convB, conv, conv0, convL, lkT, lkH, clean]
        exact ⟨⟨(List.take_of_length_le (by rw [List.length_append, List.length_take]; exact Nat.le_refl _)).symm, by omega⟩, fun id a1 a2 a3 => by omega⟩
      · have hie : i = n := by simp at h; omega
        subst hie
        simp only [V_seq, V_ret, V_exit, V_region, W_nil, W_cons, effOp2, KN_seq, KXr_nil, KXe_nil, KXe_seq, KXe_block, KXe_back, QE, effOp, effPure, pureV, strip, lkT, lkH, ISt.app, opI, gO, gB, allB, gval, wrapG, dstOK, setD, Gives, Ideal.Fin, conv, conv0, Op.operands, reduceIte, Nat.reduceAdd, Nat.reduceLT, Nat.reduceEqDiff, Nat.zero_add, ne_eq, true_and, and_true, and_self, false_implies, implies_true, List.nil_append, List.cons_append, Option.some.injEq, List.drop_zero, Bool.false_eq_true, hN, Option.isSome_none, hd]
        exact ⟨_, _, rfl, by rw [len_encI, wLoop_len]; exact Nat.le_refl _, (List.take_of_length_le (by rw [len_encI, wLoop_len]; exact Nat.le_refl _)).symm⟩
    · have d3 : (pickI (b.take 2000) 0 3 == 0) = false := by simpa using c3
      have hd : drawCW b = natI w := by rw [hD]; simp only []; rw [if_neg c3]
      have hw0 : ewV l = some w := hc
      simp only [V_seq, V_skip, V_ret, V_region, V_cond, brW_false, W_nil, W_cons, effOp2, KN_seq, KXr_nil, QE, asB, effOp, effPure, effPick, effCall, giveUp, hasAll, Option.isSome_some, skipE, pureV, pickV, binV, ofC, strip, lkT, lkH, ISt.app, opI, gO, gB, allB, gval, wrapG, dstOK, setD, mentTm, mentHp, IV.ment, IV.mentL, lendV, lendP, lent, lentP, idsV, idsL, flat, flatL, clean, cleanL, callArgs, callFn, allLent, enumT, Gives, Ideal.Fin, conv, conv0, convL, IBlk.shape, Op.operands, reduceIte, reduceCtorEq, cond_true, cond_false, Bool.or_false, Bool.or_true, Bool.and_true, Bool.not_true, Bool.not_false, Nat.reduceAdd, Nat.reduceSub, Nat.reduceMul, Nat.reduceLT, Nat.reduceLeDiff, Nat.reduceEqDiff, Nat.add_zero, Nat.zero_add, not_false_eq_true, beq_self_eq_true, true_and, and_true, and_false, and_self, implies_true, forall_const, List.map_cons, List.map_nil, List.nil_append, List.cons_append, List.append_nil, List.all_nil, Option.map_some, Option.map_none, Option.bind_some, List.getElem?_cons_zero, List.getElem?_cons_succ, List.getD_cons_zero, List.getD_cons_succ, List.length_cons, List.length_nil, ex_clo, or_true, Bool.true_eq_false, Bool.false_eq_true, hN, Int.toNat_natCast, isTs_enc, toTs_enc, isBy_enc, toBy_enc, SLe0, convTm, convHp, convB, sm, effH, mkHC0, mkHC1, lendM, lentM, lentI, allHere, addIds, idsB, flatIds, reach, posn, renV, renL, renB, renH, numB, subHp, fwd, bk, bwd, nones, keyOK, noSl, noSlL, flatBs, List.contains, List.elem, Option.isSome_some, List.nodup_nil, List.nodup_cons, List.not_mem_nil, or_false, Option.getD_some, lk_spec_DrawCheckEmpty_spec_DrawEmptyWitness, lk_spec_DrawCheckEmpty_spec_EmptyWitness, sp_spec_DrawEmptyWitness, sp_spec_EmptyWitness, lh_spec_DrawCheckEmpty_spec_DrawEmptyWitness, lh_spec_DrawCheckEmpty_spec_EmptyWitness, lh_spec_DrawCheckEmpty_spec_newReader, lh_spec_DrawCheckEmpty_spec_reader_pick, hs_spec_newReader, hs_spec_reader_pick, rdr, hsz, hbt, hl, ho, d3, hd]
      exact ⟨hb, by omega⟩
def sp_spec_DrawCheckEmpty : PSpec := ⟨fun xs => match xs with | [.sl 1 bes] => isBy bes ∧ ((fun (b : List Int) => ∀ x ∈ b, 0 ≤ x ∧ x < 256) (toIs bes)) ∧ ((fun (b : List Int) => b.length ≤ 1048576) (toIs bes)) | _ => False, fun xs => match xs with | [.sl _ bes] => (fun (b : List Int) => .tup [.sl 3 (encTs (drawEW b)), .sl 1 (encI (drawCW b))]) (toIs bes) | _ => .junk, false⟩
theorem gk_spec_DrawCheckEmpty : ∀ args, sp_spec_DrawCheckEmpty.pre args → ICall Try.prog 33 args (sp_spec_DrawCheckEmpty.val args) := by
  intro args h
  unfold sp_spec_DrawCheckEmpty at h ⊢; simp only at h ⊢; split at h
  · obtain ⟨h0, h1, h2⟩ := h
    obtain ⟨l0, rfl⟩ := isBy_ex h0
    simp only [toBy_enc] at *
    exact c_spec_DrawCheckEmpty _ h1 h2
  · exact h.elim
theorem en_spec_DrawCheckEmpty : Enters Try.prog 33 := enters_of Try.func33 (by kernel_rfl) rfl

end Go.Proofs.Ytemppebemahkoaa
