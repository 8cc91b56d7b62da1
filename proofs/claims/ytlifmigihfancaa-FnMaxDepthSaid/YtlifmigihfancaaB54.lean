/- The law on the deepest cell of rectangles. -/
import Derived.Test.YtlifmigihfancaaB53
import Derived.Test.YtlifmigihfancaaB51
import Derived.Test.YtlifmigihfancaaB8
set_option linter.unusedVariables false
set_option linter.unusedSimpArgs false
set_option maxHeartbeats 3200000
set_option maxRecDepth 100000
namespace Go.Proofs.Ytlifmigihfancaa
open Go Go.Ideal Go.Pl Go.Sort

theorem cAt_mem {l : List Cl} {i : Nat} (h : i < l.length) : cAt l i ∈ l := by simp [cAt, List.getD, h]
theorem celP_len {l : List Qd} (h : l.length ≤ 12) : (celP l).length ≤ 600 := by
  have h1 := bxs_len l
  have h2 := bys_len l
  rw [celP, grC_len]
  exact Nat.le_trans (Nat.mul_le_mul (show (bxs l).length - 1 ≤ 24 by omega) (show (bys l).length - 1 ≤ 24 by omega)) (by decide)
/-- The cells' corners are borders. -/
theorem celP_bd {l : List Qd} (h : ∀ r ∈ l, vRc r = true) : ∀ c ∈ celP l, ((-1000 ≤ c.1.1.1 ∧ c.1.1.1 ≤ 1000) ∧ (-1000 ≤ c.1.1.2 ∧ c.1.1.2 ≤ 1000)) ∧ ((-1000 ≤ c.1.2.1 ∧ c.1.2.1 ≤ 1000) ∧ (-1000 ≤ c.1.2.2 ∧ c.1.2.2 ≤ 1000)) ∧ 0 ≤ c.2 ∧ c.2 ≤ (l.length : Int) := by
  intro c hc
  obtain ⟨i, j, h1, h2, rfl⟩ := (mem_grC _).1 hc
  have bx : ∀ k, k < (bxs l).length → -1000 ≤ iA (bxs l) k ∧ iA (bxs l) k ≤ 1000 := by
    intro k hk
    obtain ⟨r, hr, e⟩ := mem_bxs.1 (iA_mem hk)
    have := vRc_facts (h r hr)
    rcases e with e | e <;> rw [e] <;> omega
  have bY : ∀ k, k < (bys l).length → -1000 ≤ iA (bys l) k ∧ iA (bys l) k ≤ 1000 := by
    intro k hk
    obtain ⟨r, hr, e⟩ := mem_bys.1 (iA_mem hk)
    have := vRc_facts (h r hr)
    rcases e with e | e <;> rw [e] <;> omega
  have hle : l.countP (Pl.inR ((iA (bxs l) i, iA (bys l) j), (iA (bxs l) (i + 1), iA (bys l) (j + 1)))) ≤ l.length := List.countP_le_length
  refine ⟨⟨bx i (by omega), bY j (by omega)⟩, ⟨bx (i + 1) (by omega), bY (j + 1) (by omega)⟩, ?_, ?_⟩
  · simp only [cel]; omega
  · simp only [cel]; omega
def bestN (L : List Cl) (i : Nat) : Cl := bestC (L.take i) (((0, 0), (0, 0)), 0)
theorem bestC_app : ∀ {l m : List Cl} {b : Cl}, bestC (l ++ m) b = bestC m (bestC l b)
  | [], m, b => rfl
  | c :: l, m, b => by
    simp only [List.cons_append, bestC]
    split <;> exact bestC_app
theorem bestN_succ {L : List Cl} {i : Nat} (h : i < L.length) : bestN L (i + 1) = if (bestN L i).2 < (cAt L i).2 then cAt L i else bestN L i := by
  rw [bestN, take_succ_g (d := (((0, 0), (0, 0)), 0)) h, bestC_app]; rfl
def mcV (l : List Qd) : Int × Pt := if okRs l then ((maxC l).2, (maxC l).1.1) else (-1, (0, 0))
theorem mcV_eq (l : List Qd) : mcV l = mxV l := by
  unfold mcV mxV
  split
  · exact max_eq l
  · rfl
def g_impl_MaxDepth : List (Nat × PSpec) := [(79, sp_impl_ValidRects), (80, sp_impl_cells)]
theorem gok_impl_MaxDepth : GOK Try.prog g_impl_MaxDepth := gok_cons gk_impl_ValidRects en_impl_ValidRects (gok_cons gk_impl_cells en_impl_cells (gok0))
theorem lk_impl_MaxDepth_impl_ValidRects : lkG g_impl_MaxDepth 79 = sp_impl_ValidRects := rfl
theorem lk_impl_MaxDepth_impl_cells : lkG g_impl_MaxDepth 80 = sp_impl_cells := rfl
def h_impl_MaxDepth : List (Nat × HSpec) := []
theorem hok_impl_MaxDepth : HOK Try.prog h_impl_MaxDepth := hok0
theorem c_impl_MaxDepth (l : List Qd)  : ICall Try.prog 21 [.sl 4 (encQs l)] (.tup [.num .i64 (mcV l).1, encP (mcV l).2]) := by
  refine icall_of_hcall (v := .tup [.num .i64 (mcV l).1, encP (mcV l).2]) (hp' := []) id ?_ (by simp [SLe0, convTm, convHp, conv, convL, conv0, lkT, clean, encP]) (by simp [idsV, idsL, encP])
  refine hcall_V (G := g_impl_MaxDepth) (H := []) [] tabOK mixed gok_impl_MaxDepth hok_impl_MaxDepth Try.func21 rfl Try.ntmps21 Try.results21 rfl (by kernel_rfl) fun F hN hlen => ?_
  cases hk : okRs l with
  | false =>
    have hv : mcV l = (-1, (0, 0)) := by rw [mcV, hk]; rfl
    simp only [V_seq, V_ret, V_region, V_cond, brW_true, W_nil, W_cons, effOp2, KN_seq, KXr_nil, KXr_seq, QE, asB, effOp, effPure, effNew, effAlloc, effStore, effCall, giveUp, hasAll, skipE, pureV, storeV, partV, loadV, over, solid, buildL, IV.cells, ofC, strip, lkT, lkH, ISt.app, opI, gO, gB, allB, gval, wrapG, dstOK, setD, mentTm, mentHp, IV.ment, oneI, lendV, lendP, lent, lentP, idsV, idsL, lkHS, flat, clean, callArgs, callFn, allLent, enumT, conv, conv0, convL, Op.operands, reduceIte, reduceCtorEq, cond_true, Bool.or_false, Bool.and_true, Bool.not_true, Bool.not_false, Nat.reduceAdd, Nat.reduceLT, Nat.reduceLeDiff, Nat.reduceEqDiff, Nat.zero_add, ne_eq, not_false_eq_true, true_and, and_false, and_self, implies_true, List.map_cons, List.map_nil, List.nil_append, List.cons_append, List.append_nil, List.all_cons, List.all_nil, List.getD_cons_zero, List.length_cons, List.length_nil, List.take_succ_cons, List.take_zero, List.take_nil, List.drop_succ_cons, List.drop_zero, List.drop_nil, ex_clo, or_self, tab30, hN, encP, isQs_enc, toQs_enc, FinH, resA, resL, resV, SLe, SLe0, convTm, convHp, lk_impl_MaxDepth_impl_ValidRects, sp_impl_ValidRects, hk, hv]
    exact ⟨id, List.nodup_nil, fun _ _ _ => rfl⟩
  | true =>
    obtain ⟨h1, h2⟩ := okRs_facts hk
    have hv : mcV l = ((maxC l).2, (maxC l).1.1) := by rw [mcV, hk]; rfl
    have hm : maxC l = bestN (celP l) (celP l).length := by rw [maxC, bestN, List.take_length]
    rw [hm] at hv
    have hL := celP_len h2
    obtain ⟨L, hLe⟩ : ∃ L, celP l = L := ⟨_, rfl⟩
    rw [hLe] at hL hv
    have eL := len_encC5s L
    simp only [V_seq, V_skip, V_block, V_region, V_cond, brW_false, W_nil, W_cons, effOp2, KN_seq, asB, effOp, effPure, effNew, effAlloc, effCall, giveUp, hasAll, skipE, pureV, lenV, ofC, strip, lkT, lkH, ISt.app, opI, gO, gB, allB, gval, wrapG, dstOK, setD, mentTm, mentHp, IV.ment, IV.mentL, lendV, lendP, lent, lentP, idsV, idsL, lkHS, flat, clean, callArgs, callFn, allLent, enumT, Op.operands, Call.operands, List.append_toArray, reduceIte, reduceCtorEq, cond_true, cond_false, Bool.or_false, Bool.not_true, Nat.reduceLT, Nat.reduceEqDiff, Nat.reduceBEq, ne_eq, not_false_eq_true, true_and, and_self, implies_true, List.map_cons, List.map_nil, List.nil_append, List.cons_append, List.append_nil, ex_clo, or_true, or_self, Bool.false_eq_true, tab30, tab93, tab94, hN, encP, isQs_enc, toQs_enc, lk_impl_MaxDepth_impl_ValidRects, lk_impl_MaxDepth_impl_cells, sp_impl_ValidRects, sp_impl_cells, hk, h2, hLe, eL]
    refine V_loop (α := Nat) ⟨tabOK, mixed, gok_impl_MaxDepth, hok_impl_MaxDepth⟩ (by kernel_rfl) (fun i => i ≤ L.length) (fun i => ⟨[(14, .num .i64 i), (13, .num .i64 L.length), (12, .sl 5 (encC5s L)), (4, .ptr 4 0), (3, .ptr 3 0), (0, .sl 4 (encQs l))], [(4, some (.box 93 [.num .i64 (bestN L i).1.1.1, .num .i64 (bestN L i).1.1.2, .num .i64 (bestN L i).1.2.1, .num .i64 (bestN L i).1.2.2, .num .i64 (bestN L i).2])), (3, some (.box 30 [.num .i64 0, .num .i64 0]))]⟩) (fun i => L.length - i) 0 id (Nat.zero_le _) (by simp [SLe, SLe0, convTm, convHp, convB, conv, conv0, convL, lkT, lkH, clean, bestN, bestC]) ?_
    intro i hi
    have hst := fun h => bestN_succ (L := L) (i := i) h
    have hend : i = L.length → mcV l = ((bestN L i).2, (bestN L i).1.1) := fun e => by rw [hv, e]
    obtain ⟨B, hB⟩ : ∃ B, bestN L i = B := ⟨_, rfl⟩
    rw [hB] at hst hend
    simp only [hB]
    simp only [V_seq, V_region, V_cond, W_nil, W_cons, effOp2, KN_seq, asB, effOp, effPure, pureV, binV, strip, lkT, ISt.app, opI, gO, gB, allB, gval, wrapG, dstOK, setD, Op.operands, reduceIte, reduceCtorEq, Nat.reduceLT, Nat.reduceEqDiff, true_and, and_self, implies_true, List.nil_append, List.cons_append, hN]
    refine brW_some (fun h => ?_) (fun h => ?_)
    · have hi' : i < L.length := by simpa using h
      have g := getD_encC5s hi'
      have hw := wr_succ hi' (by rw [maxLen_eq]; omega)
      have hs := hst hi'
      obtain ⟨c, hc⟩ : ∃ c, cAt L i = c := ⟨_, rfl⟩
      rw [hc] at g hs
      cases c1 : decide (B.2 < c.2) with
      | true =>
        rw [if_pos (of_decide_eq_true c1)] at hs
        simp only [V_seq, V_skip, V_block, V_region, V_cond, brW_true, W_nil, W_cons, effOp2, KN_seq, KN_block, KN_back, asB, effOp, effPure, effNew, effAlloc, effStore, skipE, pureV, storeV, binV, partV, eltV, loadV, faddrV, iaddrV, over, solid, IV.cells, ofC, strip, lkT, lkH, ISt.app, opI, gO, gB, allB, gval, wrapG, dstOK, setD, mentTm, mentHp, IV.ment, IV.mentL, oneI, IBlk.shape, Op.operands, reduceIte, reduceCtorEq, cond_true, Bool.or_false, Bool.and_true, Nat.reduceAdd, Nat.reduceLT, Nat.reduceLeDiff, Nat.reduceEqDiff, Nat.reduceBEq, Nat.zero_add, ne_eq, not_false_eq_true, true_and, and_true, and_false, and_self, implies_true, forall_const, List.nil_append, List.cons_append, List.append_nil, List.all_cons, List.all_nil, Option.map_some, List.getD_cons_zero, List.getD_cons_succ, List.length_cons, List.length_nil, List.take_succ_cons, List.take_zero, List.take_nil, List.drop_succ_cons, List.drop_zero, List.drop_nil, tab3, tab93, tab94, hN, Int.toNat_natCast, eL, g, hw, c1]
        repeat refine And.intro (by first | omega | (simp; done) | (simp; omega)) ?_
        exact ⟨i + 1, id, by simp only []; omega, by simp only []; omega, by simp only [hs]; exact by simp [SLe, SLe0, convTm, convHp, convB, conv, conv0, convL, lkT, lkH, clean]⟩
      | false =>
        rw [if_neg (of_decide_eq_false c1)] at hs
        simp only [V_seq, V_skip, V_block, V_region, V_cond, brW_false, W_nil, W_cons, effOp2, KN_seq, KN_block, KN_back, asB, effOp, effPure, effNew, effAlloc, effStore, skipE, pureV, storeV, binV, partV, eltV, loadV, faddrV, iaddrV, over, solid, IV.cells, ofC, strip, lkT, lkH, ISt.app, opI, gO, gB, allB, gval, wrapG, dstOK, setD, mentTm, mentHp, IV.ment, IV.mentL, oneI, IBlk.shape, Op.operands, reduceIte, reduceCtorEq, cond_true, Bool.or_false, Bool.and_true, Nat.reduceAdd, Nat.reduceLT, Nat.reduceLeDiff, Nat.reduceEqDiff, Nat.reduceBEq, Nat.zero_add, ne_eq, not_false_eq_true, true_and, and_true, and_false, and_self, implies_true, forall_const, List.nil_append, List.cons_append, List.append_nil, List.all_cons, List.all_nil, Option.map_some, List.getD_cons_zero, List.getD_cons_succ, List.length_cons, List.length_nil, List.take_succ_cons, List.take_zero, List.take_nil, List.drop_succ_cons, List.drop_zero, List.drop_nil, tab3, tab93, tab94, hN, Int.toNat_natCast, eL, g, hw, c1]
        repeat refine And.intro (by first | omega | (simp; done) | (simp; omega)) ?_
        exact ⟨i + 1, id, by simp only []; omega, by simp only []; omega, by simp only [hs]; exact by simp [SLe, SLe0, convTm, convHp, convB, conv, conv0, convL, lkT, lkH, clean]⟩
    · have hie : i = L.length := by simp at h; omega
      have hv2 := hend hie
      simp only [V_seq, V_ret, V_exit, V_draw, drawW, pairsOf, WD_nil, WD_cons, effOp3, KN_seq, KXr_nil, KXe_nil, KXe_seq, KXe_block, KXe_back, QE, effOp, effPure, effStore, pureV, storeV, partV, loadV, faddrV, over, solid, IV.cells, strip, lkT, lkH, ISt.app, opI, gO, gB, allB, gval, wrapG, dstOK, setD, oneI, clean, conv, conv0, convL, IBlk.shape, Op.operands, reduceIte, reduceCtorEq, cond_true, Bool.and_true, Nat.reduceAdd, Nat.reduceLT, Nat.reduceLeDiff, Nat.reduceEqDiff, Nat.add_zero, Nat.zero_add, true_and, and_false, and_self, implies_true, List.map_nil, List.nil_append, List.cons_append, List.append_nil, List.all_cons, List.all_nil, Option.map_some, List.getD_cons_zero, List.getD_cons_succ, List.length_cons, List.length_nil, List.take_succ_cons, List.take_zero, List.take_nil, List.drop_succ_cons, List.drop_zero, List.drop_nil, tab3, tab30, tab37, tab93, hN, FinH, resA, resL, resV, SLe, SLe0, convTm, convHp, hv2]
      exact ⟨id, List.nodup_nil, fun _ _ _ => rfl⟩
def sp_impl_MaxDepth : PSpec := ⟨fun xs => match xs with | [.sl 4 les] => isQs les | _ => False, fun xs => match xs with | [.sl _ les] => (fun (l : List Qd) => .tup [.num .i64 (mcV l).1, encP (mcV l).2]) (toQs les) | _ => .junk, false⟩
theorem gk_impl_MaxDepth : ∀ args, sp_impl_MaxDepth.pre args → ICall Try.prog 21 args (sp_impl_MaxDepth.val args) := by
  intro args h
  unfold sp_impl_MaxDepth at h ⊢; simp only at h ⊢; split at h
  · have h0 := h
    obtain ⟨l0, rfl⟩ := isQ_ex h0
    simp only [toQs_enc] at *
    exact c_impl_MaxDepth _ 
  · exact h.elim
theorem en_impl_MaxDepth : Enters Try.prog 21 := enters_of Try.func21 (by kernel_rfl) rfl

def covN (d : Int) (L : List Cl) (i : Nat) : Int := covC d (L.take i)
theorem covC_app {d : Int} : ∀ {l m : List Cl}, covC d (l ++ m) = covC d l + covC d m
  | [], m => by simp [covC]
  | c :: l, m => by simp only [List.cons_append, covC, covC_app (l := l) (m := m)]; omega
theorem covN_succ {d : Int} {L : List Cl} {i : Nat} (h : i < L.length) : covN d L (i + 1) = if d ≤ (cAt L i).2 then covN d L i + areaC (cAt L i) else covN d L i := by
  rw [covN, take_succ_g (d := (((0, 0), (0, 0)), 0)) h, covC_app]
  have : covC d [cAt L i] = (if d ≤ (cAt L i).2 then areaC (cAt L i) else 0) := by simp [covC]
  show covN d L i + covC d [cAt L i] = _
  rw [this]
  split <;> omega
theorem covN_bd {d : Int} {L : List Cl} (hb : ∀ c ∈ L, ((-1000 ≤ c.1.1.1 ∧ c.1.1.1 ≤ 1000) ∧ (-1000 ≤ c.1.1.2 ∧ c.1.1.2 ≤ 1000)) ∧ ((-1000 ≤ c.1.2.1 ∧ c.1.2.1 ≤ 1000) ∧ (-1000 ≤ c.1.2.2 ∧ c.1.2.2 ≤ 1000)) ∧ 0 ≤ c.2 ∧ c.2 ≤ 12) : ∀ i : Nat, i ≤ L.length → -(4000000 * (i : Int)) ≤ covN d L i ∧ covN d L i ≤ 4000000 * (i : Int)
  | 0, _ => by simp [covN, covC]
  | i + 1, hi => by
    have h1 := covN_bd (d := d) hb i (by omega)
    have h2 := hb _ (cAt_mem (show i < L.length by omega))
    rw [covN_succ (by omega)]
    have h3 : -4000000 ≤ areaC (cAt L i) ∧ areaC (cAt L i) ≤ 4000000 := by
      unfold areaC
      exact mulb (A := 2000) (B := 2000) (by omega) (by omega)
    split <;> omega
def cvV (l : List Qd) (d : Int) : Int := if okRs l = true ∧ 1 ≤ d then covC d (celP l) else -1
def g_impl_CoveredArea : List (Nat × PSpec) := [(79, sp_impl_ValidRects), (80, sp_impl_cells), (84, sp_impl_Point_minus)]
theorem gok_impl_CoveredArea : GOK Try.prog g_impl_CoveredArea := gok_cons gk_impl_ValidRects en_impl_ValidRects (gok_cons gk_impl_cells en_impl_cells (gok_cons gk_impl_Point_minus en_impl_Point_minus (gok0)))
theorem lk_impl_CoveredArea_impl_ValidRects : lkG g_impl_CoveredArea 79 = sp_impl_ValidRects := rfl
theorem lk_impl_CoveredArea_impl_cells : lkG g_impl_CoveredArea 80 = sp_impl_cells := rfl
theorem lk_impl_CoveredArea_impl_Point_minus : lkG g_impl_CoveredArea 84 = sp_impl_Point_minus := rfl
def h_impl_CoveredArea : List (Nat × HSpec) := []
theorem hok_impl_CoveredArea : HOK Try.prog h_impl_CoveredArea := hok0
theorem c_impl_CoveredArea (l : List Qd) (d : Int)  : ICall Try.prog 23 [.sl 4 (encQs l), .num .i64 d] (.num .i64 (cvV l d)) := by
  refine icall_V (G := g_impl_CoveredArea) (H := []) [] tabOK mixed gok_impl_CoveredArea hok_impl_CoveredArea Try.func23 rfl Try.ntmps23 Try.results23 rfl (by kernel_rfl) fun F hN hlen => ?_
  cases hk : okRs l with
  | false =>
    have hv : cvV l d = -1 := by rw [cvV, hk]; simp
    simp only [V_seq, V_ret, V_region, V_cond, brW_true, W_nil, W_cons, effOp2, KN_seq, KXr_nil, KXr_seq, QE, asB, effOp, effPure, effPick, effCall, giveUp, hasAll, pureV, pickV, binV, ofC, strip, lkT, lkH, ISt.app, opI, gO, gB, allB, gval, wrapG, dstOK, setD, lendV, lendP, lent, lentP, idsV, idsL, lkHS, flat, clean, callArgs, callFn, allLent, enumT, Gives, Ideal.Fin, conv, conv0, Op.operands, reduceIte, reduceCtorEq, cond_true, Bool.or_false, Bool.not_true, Bool.not_false, Nat.reduceLT, Nat.reduceEqDiff, Nat.zero_add, and_true, and_self, false_implies, implies_true, List.map_cons, List.map_nil, List.nil_append, List.cons_append, List.append_nil, Option.bind_some, List.getElem?_cons_zero, List.getElem?_cons_succ, ex_clo, btf, or_self, Bool.true_eq_false, Bool.false_eq_true, hN, isQs_enc, toQs_enc, lk_impl_CoveredArea_impl_ValidRects, sp_impl_ValidRects, hk, hv]
  | true =>
    obtain ⟨h1, h2⟩ := okRs_facts hk
    cases hd : decide (d < 1) with
    | true =>
      have hv : cvV l d = -1 := by
        have := of_decide_eq_true hd
        rw [cvV, if_neg (by omega)]
      simp only [V_seq, V_ret, V_region, V_cond, brW_true, W_nil, W_cons, effOp2, KN_seq, KXr_nil, KXr_seq, QE, asB, effOp, effPure, effPick, effCall, giveUp, hasAll, pureV, pickV, binV, ofC, strip, lkT, lkH, ISt.app, opI, gO, gB, allB, gval, wrapG, dstOK, setD, lendV, lendP, lent, lentP, idsV, idsL, lkHS, flat, clean, callArgs, callFn, allLent, enumT, Gives, Ideal.Fin, conv, conv0, Op.operands, reduceIte, reduceCtorEq, cond_true, cond_false, Bool.or_false, Bool.not_true, Nat.reduceLT, Nat.reduceEqDiff, Nat.zero_add, beq_self_eq_true, and_self, implies_true, List.map_cons, List.map_nil, List.nil_append, List.cons_append, List.append_nil, Option.bind_some, List.getElem?_cons_zero, List.getElem?_cons_succ, ex_clo, or_self, Bool.false_eq_true, hN, isQs_enc, toQs_enc, lk_impl_CoveredArea_impl_ValidRects, sp_impl_ValidRects, hk, hv, hd]
    | false =>
      have hv : cvV l d = covN d (celP l) (celP l).length := by
        have := of_decide_eq_false hd
        rw [cvV, if_pos ⟨hk, by omega⟩, covN, List.take_length]
      have hL := celP_len h2
      have hb : ∀ c ∈ celP l, ((-1000 ≤ c.1.1.1 ∧ c.1.1.1 ≤ 1000) ∧ (-1000 ≤ c.1.1.2 ∧ c.1.1.2 ≤ 1000)) ∧ ((-1000 ≤ c.1.2.1 ∧ c.1.2.1 ≤ 1000) ∧ (-1000 ≤ c.1.2.2 ∧ c.1.2.2 ≤ 1000)) ∧ 0 ≤ c.2 ∧ c.2 ≤ 12 := fun c hc => by
        have := celP_bd h1 c hc; omega
      obtain ⟨L, hLe⟩ : ∃ L, celP l = L := ⟨_, rfl⟩
      rw [hLe] at hL hv hb
      have eL := len_encC5s L
      simp only [V_seq, V_skip, V_block, V_region, V_cond, brW_false, W_nil, W_cons, effOp2, KN_seq, asB, effOp, effPure, effPick, effCall, giveUp, hasAll, pureV, pickV, binV, lenV, ofC, strip, lkT, lkH, ISt.app, opI, gO, gB, allB, gval, wrapG, dstOK, setD, lendV, lendP, lent, lentP, idsV, idsL, lkHS, flat, clean, callArgs, callFn, allLent, enumT, Op.operands, Call.operands, List.append_toArray, reduceIte, reduceCtorEq, cond_true, cond_false, Bool.or_false, Bool.not_true, Nat.reduceLT, Nat.reduceEqDiff, Nat.zero_add, ne_eq, not_false_eq_true, beq_self_eq_true, true_and, and_self, implies_true, List.map_cons, List.map_nil, List.nil_append, List.cons_append, List.append_nil, Option.bind_some, List.getElem?_cons_zero, List.getElem?_cons_succ, ex_clo, or_true, or_self, Bool.false_eq_true, tab94, hN, isQs_enc, toQs_enc, lk_impl_CoveredArea_impl_ValidRects, lk_impl_CoveredArea_impl_cells, sp_impl_ValidRects, sp_impl_cells, hk, hd, h2, hLe, eL]
      refine V_loop (α := Nat) ⟨tabOK, mixed, gok_impl_CoveredArea, hok_impl_CoveredArea⟩ (by kernel_rfl) (fun i => i ≤ L.length) (fun i => ⟨[(19, .num .i64 i), (18, .num .i64 L.length), (17, .sl 5 (encC5s L)), (5, .num .i64 (covN d L i)), (0, .sl 4 (encQs l)), (1, .num .i64 d)], []⟩) (fun i => L.length - i) 0 id (Nat.zero_le _) (by simp [SLe, SLe0, convTm, convHp, conv, conv0, lkT, lkH, clean, covN, covC]) ?_
      intro i hi
      have hst := fun h => covN_succ (d := d) (L := L) (i := i) h
      have hend : i = L.length → cvV l d = covN d L i := fun e => by rw [hv, e]
      have hcb := covN_bd (d := d) hb i hi
      obtain ⟨B, hB⟩ : ∃ B, covN d L i = B := ⟨_, rfl⟩
      rw [hB] at hst hend hcb
      simp only [hB]
      simp only [V_seq, V_region, V_cond, W_nil, W_cons, effOp2, KN_seq, asB, effOp, effPure, pureV, binV, strip, lkT, ISt.app, opI, gO, gB, allB, gval, wrapG, dstOK, setD, Op.operands, reduceIte, reduceCtorEq, Nat.reduceLT, Nat.reduceEqDiff, true_and, and_self, implies_true, List.nil_append, List.cons_append, List.append_nil, hN]
      refine brW_some (fun h => ?_) (fun h => ?_)
      · have hi' : i < L.length := by simpa using h
        have g := getD_encC5s hi'
        have hw := wr_succ hi' (by rw [maxLen_eq]; omega)
        have hs := hst hi'
        have hcb2 := hb _ (cAt_mem hi')
        obtain ⟨c, hc⟩ : ∃ c, cAt L i = c := ⟨_, rfl⟩
        rw [hc] at g hs hcb2
        have s1 : Sm c.1.1 := ⟨by unfold sm1; omega, by unfold sm1; omega⟩
        have s2 : Sm c.1.2 := ⟨by unfold sm1; omega, by unfold sm1; omega⟩
        have ar : -4000000 ≤ areaC c ∧ areaC c ≤ 4000000 := by
          unfold areaC
          exact mulb (A := 2000) (B := 2000) (by omega) (by omega)
        have hac : (wayP c.1.2 c.1.1).1 * (wayP c.1.2 c.1.1).2 = areaC c := rfl
        have wa : IntKind.i64.wrap (areaC c) = areaC c := wr (by omega) (by omega)
        have wb : IntKind.i64.wrap (B + areaC c) = B + areaC c := wr (by omega) (by omega)
        cases c1 : decide (d ≤ c.2) with
        | true =>
          rw [if_pos (of_decide_eq_true c1)] at hs
          simp only [V_seq, V_skip, V_block, V_region, V_cond, brW_true, W_nil, W_cons, effOp2, KN_seq, KN_block, KN_back, asB, effOp, effPure, effNew, effAlloc, effStore, effCall, giveUp, hasAll, skipE, pureV, storeV, binV, partV, eltV, loadV, faddrV, iaddrV, over, solid, IV.cells, ofC, strip, lkT, lkH, ISt.app, opI, gO, gB, allB, gval, wrapG, dstOK, setD, mentTm, mentHp, IV.ment, IV.mentL, oneI, lendV, lendP, lent, lentP, idsV, idsL, lkHS, flat, flatL, clean, cleanL, callArgs, callFn, allLent, IBlk.shape, Op.operands, reduceIte, reduceCtorEq, cond_true, Bool.or_false, Bool.and_true, Bool.not_true, Nat.reduceAdd, Nat.reduceLT, Nat.reduceLeDiff, Nat.reduceEqDiff, Nat.reduceBEq, Nat.add_zero, Nat.zero_add, ne_eq, not_false_eq_true, true_and, and_true, and_false, and_self, implies_true, forall_const, List.map_cons, List.map_nil, List.nil_append, List.cons_append, List.append_nil, List.all_cons, List.all_nil, Option.map_some, List.getD_cons_zero, List.getD_cons_succ, List.length_cons, List.length_nil, List.take_succ_cons, List.take_zero, List.take_nil, List.drop_succ_cons, List.drop_zero, List.drop_nil, ex_clo, or_self, tab3, tab30, tab37, tab93, tab94, hN, pe, Int.toNat_natCast, encP, lk_impl_CoveredArea_impl_Point_minus, sp_impl_Point_minus, eL, g, hw, c1, hac, wa, wb]
          repeat refine And.intro (by first | omega | (simp; done) | (simp; omega)) ?_
          exact ⟨i + 1, id, by simp only []; omega, by simp only []; omega, by simp only [hs]; exact by simp [SLe, SLe0, convTm, convHp, conv, conv0, lkT, lkH, clean]⟩
        | false =>
          rw [if_neg (of_decide_eq_false c1)] at hs
          simp only [V_seq, V_skip, V_block, V_region, V_cond, brW_false, W_nil, W_cons, effOp2, KN_seq, KN_block, KN_back, asB, effOp, effPure, effNew, effAlloc, effStore, skipE, pureV, storeV, binV, partV, eltV, loadV, faddrV, iaddrV, over, solid, IV.cells, ofC, strip, lkT, lkH, ISt.app, opI, gO, gB, allB, gval, wrapG, dstOK, setD, mentTm, mentHp, IV.ment, IV.mentL, oneI, IBlk.shape, Op.operands, reduceIte, reduceCtorEq, cond_true, Bool.or_false, Bool.and_true, Nat.reduceAdd, Nat.reduceLT, Nat.reduceLeDiff, Nat.reduceEqDiff, Nat.zero_add, ne_eq, not_false_eq_true, true_and, and_true, and_false, and_self, implies_true, forall_const, List.nil_append, List.cons_append, List.append_nil, List.all_cons, List.all_nil, Option.map_some, List.getD_cons_zero, List.getD_cons_succ, List.length_cons, List.length_nil, List.take_succ_cons, List.take_zero, List.take_nil, List.drop_succ_cons, List.drop_zero, List.drop_nil, tab3, tab93, tab94, hN, Int.toNat_natCast, eL, g, hw, c1]
          repeat refine And.intro (by first | omega | (simp; done) | (simp; omega)) ?_
          exact ⟨i + 1, id, by simp only []; omega, by simp only []; omega, by simp only [hs]; exact by simp [SLe, SLe0, convTm, convHp, conv, conv0, lkT, lkH, clean]⟩
      · have hie : i = L.length := by simp at h; omega
        have hv2 := hend hie
        simp only [V_seq, V_ret, V_exit, V_region, W_nil, W_cons, effOp2, KN_seq, KXr_nil, KXe_nil, KXe_seq, KXe_block, KXe_back, QE, effOp, effPure, pureV, strip, lkT, lkH, ISt.app, opI, gO, gB, allB, gval, wrapG, dstOK, setD, clean, Gives, Ideal.Fin, conv, conv0, Op.operands, reduceIte, reduceCtorEq, Nat.reduceLT, Nat.reduceEqDiff, and_self, implies_true, List.nil_append, List.cons_append, List.append_nil, hN, hv2]
def sp_impl_CoveredArea : PSpec := ⟨fun xs => match xs with | [.sl 4 les, .num .i64 d] => isQs les | _ => False, fun xs => match xs with | [.sl _ les, .num _ d] => (fun (l : List Qd) (d : Int) => .num .i64 (cvV l d)) (toQs les) d | _ => .junk, false⟩
theorem gk_impl_CoveredArea : ∀ args, sp_impl_CoveredArea.pre args → ICall Try.prog 23 args (sp_impl_CoveredArea.val args) := by
  intro args h
  unfold sp_impl_CoveredArea at h ⊢; simp only at h ⊢; split at h
  · have h0 := h
    obtain ⟨l0, rfl⟩ := isQ_ex h0
    simp only [toQs_enc] at *
    exact c_impl_CoveredArea _ _ 
  · exact h.elim
theorem en_impl_CoveredArea : Enters Try.prog 23 := enters_of Try.func23 (by kernel_rfl) rfl

def g_laws_FnMaxDepth : List (Nat × PSpec) := [(20, sp_spec_DrawMaxDepth), (21, sp_impl_MaxDepth), (22, sp_spec_MaxDepth), (23, sp_impl_CoveredArea)]
theorem gok_laws_FnMaxDepth : GOK Try.prog g_laws_FnMaxDepth := gok_cons gk_spec_DrawMaxDepth en_spec_DrawMaxDepth (gok_cons gk_impl_MaxDepth en_impl_MaxDepth (gok_cons gk_spec_MaxDepth en_spec_MaxDepth (gok_cons gk_impl_CoveredArea en_impl_CoveredArea (gok0))))
theorem lk_laws_FnMaxDepth_spec_DrawMaxDepth : lkG g_laws_FnMaxDepth 20 = sp_spec_DrawMaxDepth := rfl
theorem lk_laws_FnMaxDepth_impl_MaxDepth : lkG g_laws_FnMaxDepth 21 = sp_impl_MaxDepth := rfl
theorem lk_laws_FnMaxDepth_spec_MaxDepth : lkG g_laws_FnMaxDepth 22 = sp_spec_MaxDepth := rfl
theorem lk_laws_FnMaxDepth_impl_CoveredArea : lkG g_laws_FnMaxDepth 23 = sp_impl_CoveredArea := rfl
def h_laws_FnMaxDepth : List (Nat × HSpec) := []
theorem hok_laws_FnMaxDepth : HOK Try.prog h_laws_FnMaxDepth := hok0
theorem c_laws_FnMaxDepth (b : List Int) (hb : ∀ x ∈ b, 0 ≤ x ∧ x < 256) : ICall Try.prog 4 [.sl 1 (encBy b)] (.bool true) := by
  refine icall_V (G := g_laws_FnMaxDepth) (H := []) [] tabOK mixed gok_laws_FnMaxDepth hok_laws_FnMaxDepth Try.func4 rfl Try.ntmps4 Try.results4 rfl (by kernel_rfl) fun F hN hlen => ?_
  have el := len_encBy b
  simp only [V_seq, V_region, V_cond, W_nil, W_cons, effOp2, KN_seq, asB, effOp, effPure, pureV, binV, lenV, ofC, strip, lkT, ISt.app, opI, gO, gB, allB, gval, wrapG, dstOK, setD, enumT, Op.operands, Call.operands, List.append_toArray, reduceIte, reduceCtorEq, Nat.reduceLT, Nat.reduceEqDiff, ne_eq, not_false_eq_true, true_and, and_self, implies_true, List.nil_append, List.cons_append, List.append_nil, tab22, hN, el]
  refine brW_some (fun h => ?_) (fun h => ?_)
  · simp only [V_seq, V_ret, V_region, W_nil, W_cons, effOp2, KN_seq, KXr_nil, KXr_seq, QE, effOp, effPure, pureV, ofC, strip, lkT, lkH, ISt.app, opI, gO, gB, allB, gval, wrapG, dstOK, setD, clean, Gives, Ideal.Fin, conv, conv0, Op.operands, reduceIte, reduceCtorEq, Nat.reduceLT, Nat.reduceEqDiff, and_self, implies_true, List.nil_append, List.cons_append, List.append_nil, hN]
  · have hsz : b.length ≤ 1048576 := by simp at h; omega
    obtain ⟨l, hl⟩ : ∃ l, drawRs b = l := ⟨_, rfl⟩
    have eq := len_encQs l
    have he := mcV_eq l
    obtain ⟨m, hm⟩ : ∃ m, mxV l = m := ⟨_, rfl⟩
    rw [hm] at he
    have nn : (m.1 != m.1) = false := by simp
    have n1 : (m.2.1 != m.2.1) = false := by simp
    have bb : ∀ x : Int, (x == x) = true := fun x => by simp
    cases d0 : decide (m.1 < 1) with
    | true =>
      simp only [V_seq, V_skip, V_ret, V_region, V_cond, brW_true, W_nil, W_cons, effOp2, KN_seq, KXr_nil, KXr_seq, QE, asB, effOp, effPure, effPick, effNew, effAlloc, effStore, effCall, giveUp, hasAll, skipE, pureV, pickV, storeV, binV, partV, loadV, over, solid, IV.cells, ofC, strip, lkT, lkH, ISt.app, opI, gO, gB, allB, gval, wrapG, dstOK, setD, mentTm, mentHp, IV.ment, IV.mentL, oneI, lendV, lendP, lent, lentP, idsV, idsL, lkHS, flat, flatL, clean, cleanL, callArgs, callFn, allLent, Gives, Ideal.Fin, conv, conv0, eqL, numsOnly, Op.operands, reduceIte, reduceCtorEq, cond_true, cond_false, Bool.or_false, Bool.and_true, Bool.not_true, Nat.reduceAdd, Nat.reduceLT, Nat.reduceLeDiff, Nat.reduceEqDiff, Nat.reduceBEq, Nat.zero_add, beq_self_eq_true, true_and, and_true, and_false, and_self, implies_true, forall_const, List.map_cons, List.map_nil, List.nil_append, List.cons_append, List.append_nil, List.all_cons, List.all_nil, Option.bind_some, List.getElem?_cons_zero, List.getElem?_cons_succ, List.getD_cons_zero, List.getD_cons_succ, List.length_cons, List.length_nil, List.take_succ_cons, List.take_zero, List.take_nil, List.drop_succ_cons, List.drop_zero, List.drop_nil, ex_clo, or_true, or_self, Bool.true_eq_false, Bool.false_eq_true, tab30, hN, encP, isQs_enc, toQs_enc, isBy_enc, toBy_enc, lk_laws_FnMaxDepth_spec_DrawMaxDepth, lk_laws_FnMaxDepth_impl_MaxDepth, lk_laws_FnMaxDepth_spec_MaxDepth, sp_spec_DrawMaxDepth, sp_impl_MaxDepth, sp_spec_MaxDepth, hsz, hl, he, hm, nn, d0]
      exact hb
    | false =>
      have hm1 : 1 ≤ m.1 := by have := of_decide_eq_false d0; omega
      have hok : okRs l = true := by
        cases hk : okRs l with
        | true => rfl
        | false => rw [mxV, hk, if_neg (by decide)] at hm; rw [← hm] at hm1; exact absurd hm1 (by decide)
      obtain ⟨k1, k2⟩ := okRs_facts hok
      have hmc : ((maxC l).2, (maxC l).1.1) = m := by rw [← he, mcV, hok]; rfl
      have e1 : (maxC l).2 = m.1 := by rw [← hmc]
      have e2 : (maxC l).1.1 = m.2 := by rw [← hmc]
      obtain ⟨q1, q2, q3⟩ := max_law (l := l) (by omega)
      rw [e1, e2] at q1
      rw [e1] at q2 q3
      have hdl : dep l m.2.1 m.2.2 ≤ l.length := List.countP_le_length
      have v1 : decide (0 < cvV l m.1) = true := by
        rw [cvV, if_pos ⟨hok, hm1⟩]; exact decide_eq_true q2
      have w1 : IntKind.i64.wrap (m.1 + 1) = m.1 + 1 := wr (by omega) (by omega)
      have v2 : (cvV l (m.1 + 1) == 0) = true := by
        rw [cvV, if_pos ⟨hok, by omega⟩, q3]; rfl
      simp only [V_seq, V_skip, V_block, V_region, V_cond, brW_false, W_nil, W_cons, effOp2, KN_seq, asB, effOp, effPure, effPick, effNew, effAlloc, effStore, effCall, giveUp, hasAll, skipE, pureV, pickV, storeV, binV, partV, loadV, over, solid, IV.cells, ofC, strip, lkT, lkH, ISt.app, opI, gO, gB, allB, gval, wrapG, dstOK, setD, mentTm, mentHp, IV.ment, IV.mentL, oneI, lendV, lendP, lent, lentP, idsV, idsL, lkHS, flat, flatL, clean, cleanL, callArgs, callFn, allLent, eqL, numsOnly, Op.operands, reduceIte, reduceCtorEq, cond_true, cond_false, Bool.or_false, Bool.and_true, Bool.not_true, Nat.reduceAdd, Nat.reduceLT, Nat.reduceLeDiff, Nat.reduceEqDiff, Nat.reduceBEq, Nat.zero_add, beq_self_eq_true, true_and, and_true, and_false, and_self, implies_true, forall_const, List.map_cons, List.map_nil, List.nil_append, List.cons_append, List.append_nil, List.all_cons, List.all_nil, Option.bind_some, List.getElem?_cons_zero, List.getElem?_cons_succ, List.getD_cons_zero, List.getD_cons_succ, List.length_cons, List.length_nil, List.take_succ_cons, List.take_zero, List.take_nil, List.drop_succ_cons, List.drop_zero, List.drop_nil, ex_clo, or_true, or_self, Bool.false_eq_true, tab30, hN, encP, isQs_enc, toQs_enc, isBy_enc, toBy_enc, lk_laws_FnMaxDepth_spec_DrawMaxDepth, lk_laws_FnMaxDepth_impl_MaxDepth, lk_laws_FnMaxDepth_spec_MaxDepth, sp_spec_DrawMaxDepth, sp_impl_MaxDepth, sp_spec_MaxDepth, hsz, hl, he, hm, nn, d0]
      refine ⟨hb, ?_⟩
      refine V_loop (α := Nat) ⟨tabOK, mixed, gok_laws_FnMaxDepth, hok_laws_FnMaxDepth⟩ (by kernel_rfl) (fun i => i ≤ l.length) (fun i => ⟨[(9, .num .i64 i), (8, .num .i64 ((dep (l.take i) m.2.1 m.2.2 : Nat) : Int)), (5, .ptr 5 0), (4, .num .i64 m.1), (3, .sl 4 (encQs l))], [(5, some (.box 30 [.num .i64 m.2.1, .num .i64 m.2.2]))]⟩) (fun i => l.length - i) 0 id (Nat.zero_le _) (by simp [SLe, SLe0, convTm, convHp, convB, conv, conv0, convL, lkT, lkH, clean, dep]) ?_
      intro i hi
      have hst := fun h => cnt_succ (Pl.inC m.2.1 m.2.2) (l := l) (i := i) h
      have hcb : (l.take i).countP (Pl.inC m.2.1 m.2.2) ≤ i := Nat.le_trans List.countP_le_length (by rw [List.length_take]; omega)
      have hend : i = l.length → (((l.take i).countP (Pl.inC m.2.1 m.2.2) : Nat) : Int) = m.1 := fun e => by rw [e, List.take_length]; exact q1
      simp only [dep]
      obtain ⟨D, hD⟩ : ∃ D, (l.take i).countP (Pl.inC m.2.1 m.2.2) = D := ⟨_, rfl⟩
      rw [hD] at hst hcb hend
      simp only [hD]
      simp only [V_seq, V_region, V_cond, W_nil, W_cons, effOp2, KN_seq, asB, effOp, effPure, pureV, binV, lenV, strip, lkT, ISt.app, opI, gO, gB, allB, gval, wrapG, dstOK, setD, Op.operands, Call.operands, List.append_toArray, reduceIte, reduceCtorEq, Nat.reduceLT, Nat.reduceEqDiff, ne_eq, not_false_eq_true, true_and, and_self, implies_true, List.nil_append, List.cons_append, tab32, hN, eq]
      refine brW_some (fun h4 => ?_) (fun h4 => ?_)
      · have hi' : i < l.length := by simpa using h4
        have g := getD_encQs hi'
        have hw := wr_succ hi' (by rw [maxLen_eq]; omega)
        have hs := hst hi'
        have hv := vRc_facts (k1 _ (show qAt l i ∈ l by simp [hi']))
        obtain ⟨q, hq⟩ : ∃ q, qAt l i = q := ⟨_, rfl⟩
        rw [hq] at g hs hv
        have hP : Pl.inC m.2.1 m.2.2 q = (decide (q.1.1 ≤ m.2.1) && decide (m.2.1 < q.2.1) && decide (q.1.2 ≤ m.2.2) && decide (m.2.2 < q.2.2)) := by
          rw [Pl.inC, Bool.eq_iff_iff]
          simp only [Bool.and_eq_true, decide_eq_true_eq]
          omega
        have wD : IntKind.i64.wrap ((D : Int) + 1) = ((D + 1 : Nat) : Int) := by rw [wr (by omega) (by omega)]; omega
        cases c1 : decide (q.1.1 ≤ m.2.1) with
        | false =>
          rw [hP, c1, Bool.false_and, Bool.false_and, Bool.false_and, if_neg (by decide), Nat.add_zero] at hs
          simp only [V_seq, V_skip, V_block, V_region, V_draw, V_cond, brW_false, drawW, pairsOf, W_nil, W_cons, WD_nil, WD_cons, effOp2, effOp3, KN_seq, KN_block, KN_back, asB, effOp, effPure, effPick, pureV, pickV, binV, partV, eltV, loadV, faddrV, iaddrV, ofC, strip, lkT, lkH, ISt.app, opI, gO, gB, allB, gval, wrapG, dstOK, setD, IBlk.shape, Op.operands, reduceIte, reduceCtorEq, cond_false, Nat.reduceAdd, Nat.reduceLT, Nat.reduceLeDiff, Nat.reduceEqDiff, Nat.add_zero, Nat.zero_add, ne_eq, not_false_eq_true, true_and, and_true, false_and, and_false, and_self, false_implies, implies_true, forall_const, List.nil_append, List.cons_append, Option.map_some, Option.bind_some, List.getElem?_cons_zero, List.getElem?_cons_succ, List.getD_cons_zero, List.getD_cons_succ, List.length_cons, List.length_nil, List.take_succ_cons, List.take_zero, List.take_nil, List.drop_succ_cons, List.drop_zero, bft, Bool.false_eq_true, tab3, tab30, tab32, tab37, hN, Int.toNat_natCast, eq, g, hw, c1]
          repeat refine And.intro (by first | omega | (simp; done) | (simp; omega)) ?_
          exact ⟨i + 1, id, by simp only []; omega, by simp only []; omega, by simp only [hs]; exact by simp [SLe, SLe0, convTm, convHp, convB, conv, conv0, convL, lkT, lkH, clean]⟩
        | true =>
          cases c2 : decide (m.2.1 < q.2.1) with
          | false =>
            rw [hP, c1, c2, Bool.and_false, Bool.false_and, Bool.false_and, if_neg (by decide), Nat.add_zero] at hs
            simp only [V_seq, V_skip, V_block, V_region, V_draw, V_cond, brW_false, drawW, pairsOf, W_nil, W_cons, WD_nil, WD_cons, effOp2, effOp3, KN_seq, KN_block, KN_back, asB, effOp, effPure, effPick, pureV, pickV, binV, partV, eltV, loadV, faddrV, iaddrV, ofC, strip, lkT, lkH, ISt.app, opI, gO, gB, allB, gval, wrapG, dstOK, setD, IBlk.shape, Op.operands, reduceIte, reduceCtorEq, cond_true, cond_false, Nat.reduceAdd, Nat.reduceLT, Nat.reduceLeDiff, Nat.reduceEqDiff, Nat.add_zero, Nat.zero_add, ne_eq, not_false_eq_true, beq_self_eq_true, true_and, and_true, false_and, and_false, and_self, false_implies, implies_true, forall_const, List.nil_append, List.cons_append, Option.map_some, Option.bind_some, List.getElem?_cons_zero, List.getElem?_cons_succ, List.getD_cons_zero, List.getD_cons_succ, List.length_cons, List.length_nil, List.take_succ_cons, List.take_zero, List.take_nil, List.drop_succ_cons, List.drop_zero, bft, Bool.true_eq_false, Bool.false_eq_true, tab3, tab30, tab32, tab37, hN, Int.toNat_natCast, eq, g, hw, c1, c2]
            repeat refine And.intro (by first | omega | (simp; done) | (simp; omega)) ?_
            exact ⟨i + 1, id, by simp only []; omega, by simp only []; omega, by simp only [hs]; exact by simp [SLe, SLe0, convTm, convHp, convB, conv, conv0, convL, lkT, lkH, clean]⟩
          | true =>
            cases c3 : decide (q.1.2 ≤ m.2.2) with
            | false =>
              rw [hP, c1, c2, c3, Bool.and_false, Bool.false_and, if_neg (by decide), Nat.add_zero] at hs
              simp only [V_seq, V_skip, V_block, V_region, V_draw, V_cond, brW_false, drawW, pairsOf, W_nil, W_cons, WD_nil, WD_cons, effOp2, effOp3, KN_seq, KN_block, KN_back, asB, effOp, effPure, effPick, pureV, pickV, binV, partV, eltV, loadV, faddrV, iaddrV, ofC, strip, lkT, lkH, ISt.app, opI, gO, gB, allB, gval, wrapG, dstOK, setD, IBlk.shape, Op.operands, reduceIte, reduceCtorEq, cond_true, cond_false, Nat.reduceAdd, Nat.reduceLT, Nat.reduceLeDiff, Nat.reduceEqDiff, Nat.add_zero, Nat.zero_add, ne_eq, not_false_eq_true, beq_self_eq_true, true_and, and_true, false_and, and_false, and_self, false_implies, implies_true, forall_const, List.nil_append, List.cons_append, Option.map_some, Option.bind_some, List.getElem?_cons_zero, List.getElem?_cons_succ, List.getD_cons_zero, List.getD_cons_succ, List.length_cons, List.length_nil, List.take_succ_cons, List.take_zero, List.take_nil, List.drop_succ_cons, List.drop_zero, bft, Bool.true_eq_false, Bool.false_eq_true, tab3, tab30, tab32, tab37, hN, Int.toNat_natCast, eq, g, hw, c1, c2, c3]
              repeat refine And.intro (by first | omega | (simp; done) | (simp; omega)) ?_
              exact ⟨i + 1, id, by simp only []; omega, by simp only []; omega, by simp only [hs]; exact by simp [SLe, SLe0, convTm, convHp, convB, conv, conv0, convL, lkT, lkH, clean]⟩
            | true =>
              cases c4 : decide (m.2.2 < q.2.2) with
              | false =>
                rw [hP, c1, c2, c3, c4, Bool.and_false, if_neg (by decide), Nat.add_zero] at hs
                simp only [V_seq, V_skip, V_block, V_region, V_draw, V_cond, brW_false, drawW, pairsOf, W_nil, W_cons, WD_nil, WD_cons, effOp2, effOp3, KN_seq, KN_block, KN_back, asB, effOp, effPure, effPick, pureV, pickV, binV, partV, eltV, loadV, faddrV, iaddrV, ofC, strip, lkT, lkH, ISt.app, opI, gO, gB, allB, gval, wrapG, dstOK, setD, IBlk.shape, Op.operands, reduceIte, reduceCtorEq, cond_true, Nat.reduceAdd, Nat.reduceLT, Nat.reduceLeDiff, Nat.reduceEqDiff, Nat.add_zero, Nat.zero_add, ne_eq, not_false_eq_true, beq_self_eq_true, true_and, and_true, and_false, and_self, implies_true, forall_const, List.nil_append, List.cons_append, Option.map_some, Option.bind_some, List.getElem?_cons_zero, List.getElem?_cons_succ, List.getD_cons_zero, List.getD_cons_succ, List.length_cons, List.length_nil, List.take_succ_cons, List.take_zero, List.take_nil, List.drop_succ_cons, List.drop_zero, Bool.true_eq_false, tab3, tab30, tab32, tab37, hN, Int.toNat_natCast, eq, g, hw, c1, c2, c3, c4]
                repeat refine And.intro (by first | omega | (simp; done) | (simp; omega)) ?_
                exact ⟨i + 1, id, by simp only []; omega, by simp only []; omega, by simp only [hs]; exact by simp [SLe, SLe0, convTm, convHp, convB, conv, conv0, convL, lkT, lkH, clean]⟩
              | true =>
                rw [hP, c1, c2, c3, c4, Bool.and_self, Bool.and_self, Bool.and_self, if_pos rfl] at hs
                simp only [V_seq, V_skip, V_block, V_region, V_draw, V_cond, brW_true, drawW, pairsOf, W_nil, W_cons, WD_nil, WD_cons, effOp2, effOp3, KN_seq, KN_block, KN_back, asB, effOp, effPure, effPick, pureV, pickV, binV, partV, eltV, loadV, faddrV, iaddrV, ofC, strip, lkT, lkH, ISt.app, opI, gO, gB, allB, gval, wrapG, dstOK, setD, IBlk.shape, Op.operands, reduceIte, reduceCtorEq, cond_true, Nat.reduceAdd, Nat.reduceLT, Nat.reduceLeDiff, Nat.reduceEqDiff, Nat.add_zero, Nat.zero_add, ne_eq, not_false_eq_true, beq_self_eq_true, true_and, and_true, and_false, and_self, implies_true, forall_const, List.nil_append, List.cons_append, Option.map_some, Option.bind_some, List.getElem?_cons_zero, List.getElem?_cons_succ, List.getD_cons_zero, List.getD_cons_succ, List.length_cons, List.length_nil, List.take_succ_cons, List.take_zero, List.take_nil, List.drop_succ_cons, List.drop_zero, Bool.true_eq_false, tab3, tab30, tab32, tab37, hN, Int.toNat_natCast, eq, g, hw, wD, c1, c2, c3, c4]
                repeat refine And.intro (by first | omega | (simp; done) | (simp; omega)) ?_
                exact ⟨i + 1, id, by simp only []; omega, by simp only []; omega, by simp only [hs]; exact by simp [SLe, SLe0, convTm, convHp, convB, conv, conv0, convL, lkT, lkH, clean]⟩
      · have hie : i = l.length := by simp at h4; omega
        have hDm := hend hie
        simp only [V_seq, V_ret, V_exit, V_region, W_nil, W_cons, effOp2, KN_seq, KXr_nil, KXe_nil, KXe_seq, KXe_block, KXe_back, QE, effOp, effPure, effPick, effCall, giveUp, hasAll, pureV, pickV, binV, ofC, strip, lkT, lkH, ISt.app, opI, gO, gB, allB, gval, wrapG, dstOK, setD, lendV, lendP, lent, lentP, idsV, idsL, lkHS, flat, clean, callArgs, callFn, allLent, Gives, Ideal.Fin, conv, conv0, Op.operands, reduceIte, cond_true, Bool.or_false, Bool.not_true, Nat.reduceLT, Nat.reduceEqDiff, beq_self_eq_true, and_self, implies_true, List.map_cons, List.map_nil, List.nil_append, List.cons_append, List.append_nil, Option.bind_some, List.getElem?_cons_zero, List.getElem?_cons_succ, ex_clo, or_self, Bool.true_eq_false, hN, isQs_enc, toQs_enc, lk_laws_FnMaxDepth_impl_CoveredArea, sp_impl_CoveredArea, hDm, w1, v1, v2]
def sp_laws_FnMaxDepth : PSpec := ⟨fun xs => match xs with | [.sl 1 bes] => isBy bes ∧ ((fun (b : List Int) => ∀ x ∈ b, 0 ≤ x ∧ x < 256) (toIs bes)) | _ => False, fun xs => match xs with | [.sl _ bes] => (fun (b : List Int) => .bool true) (toIs bes) | _ => .junk, false⟩
theorem gk_laws_FnMaxDepth : ∀ args, sp_laws_FnMaxDepth.pre args → ICall Try.prog 4 args (sp_laws_FnMaxDepth.val args) := by
  intro args h
  unfold sp_laws_FnMaxDepth at h ⊢; simp only at h ⊢; split at h
  · obtain ⟨h0, h1⟩ := h
    obtain ⟨l0, rfl⟩ := isBy_ex h0
    simp only [toBy_enc] at *
    exact c_laws_FnMaxDepth _ h1
  · exact h.elim
theorem en_laws_FnMaxDepth : Enters Try.prog 4 := enters_of Try.func4 (by kernel_rfl) rfl

end Go.Proofs.Ytlifmigihfancaa
