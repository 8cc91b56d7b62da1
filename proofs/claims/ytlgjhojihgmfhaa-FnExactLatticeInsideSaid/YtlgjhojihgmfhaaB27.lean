/- Contracts: lattice points inside of a polygon; the exact law on them. -/
import Derived.Test.YtlgjhojihgmfhaaB21
import Derived.Test.YtlgjhojihgmfhaaB16
import Derived.Test.YtlgjhojihgmfhaaBX
import Derived.Test.YtlgjhojihgmfhaaPl12
set_option linter.unusedVariables false
set_option linter.unusedSimpArgs false
set_option maxHeartbeats 1600000
set_option maxRecDepth 100000
namespace Go.Proofs.Ytlgjhojihgmfhaa
open Go Go.Ideal Go.Pl Go.Sort

theorem ok_at {l : List Pt} (h : okPs l = true) {i : Nat} (hi : i < l.length) : (-1000 ≤ (pAt l i).1 ∧ (pAt l i).1 ≤ 1000) ∧ (-1000 ≤ (pAt l i).2 ∧ (pAt l i).2 ≤ 1000) := by
  simp only [okPs, Bool.and_eq_true, List.all_eq_true] at h
  have := h.1 (pAt l i) (by rw [pAt, List.getD, List.getElem?_eq_getElem hi]; exact List.getElem_mem hi)
  simpa only [okP, inR, Bool.and_eq_true, decide_eq_true_eq] using this
/-- Is a point inside? -/
def insB (l : List Pt) (q : Pt) : Bool := locR q (edgesP l) false == 1
def latW (l : List Pt) : Int := (highP2 l).1 - (lowP l).1 + 1
def latH (l : List Pt) : Int := (highP2 l).2 - (lowP l).2 + 1
/-- Is it a simple polygon with few enough cells? -/
def latB (l : List Pt) : Bool := simpB l && !(decide (1000 < latW l * latH l))
def latL (l : List Pt) : List Pt := colsN (insB l) (lowP l).1 (lowP l).2 (latH l).toNat (latW l).toNat
theorem lat_no1 {l : List Pt} (h : simpB l = false) : latB l = false := by rw [latB, h]; rfl
theorem lat_bd {l : List Pt} (h : simpB l = true) : ((-1000 ≤ (lowP l).1 ∧ (lowP l).1 ≤ (highP2 l).1 ∧ (highP2 l).1 ≤ 1000) ∧ (-1000 ≤ (lowP l).2 ∧ (lowP l).2 ≤ (highP2 l).2 ∧ (highP2 l).2 ≤ 1000)) := by
  obtain ⟨hk, h3, h20, hnd⟩ := ring_facts (simp_ring h)
  have h1 := low_bd (L := -1000) (fun i hi => ⟨(ok_at hk hi).1.1, (ok_at hk hi).2.1⟩) (by omega) l.length (Nat.le_refl _)
  have h2 := high_bd (L := 1000) (fun i hi => ⟨(ok_at hk hi).1.2, (ok_at hk hi).2.2⟩) (by omega) l.length (Nat.le_refl _)
  have h4 := low_high l l.length
  unfold lowP highP2
  exact ⟨⟨h1.1, h4.1, h2.1⟩, h1.2, h4.2, h2.2⟩
theorem lowF_step (l : List Pt) (i : Nat) : lowF l (i + 1) = (min (lowF l i).1 (pAt l i).1, min (lowF l i).2 (pAt l i).2) := rfl
theorem highF_step (l : List Pt) (i : Nat) : highF l (i + 1) = (max (highF l i).1 (pAt l i).1, max (highF l i).2 (pAt l i).2) := rfl
theorem encPs_step (A : List Pt) (c : Bool) (p : Pt) (n : Nat) (hn : (encPs A).length = n) (hc : c = true) : encPs (A ++ if c then [p] else []) = (encPs A).take n ++ [IV.agg [.num .i64 p.1, .num .i64 p.2]] := by
  rw [if_pos hc, ← encPs_app, List.take_of_length_le (Nat.le_of_eq hn)]; rfl

def g_impl_LatticeInside : List (Nat × PSpec) := [(90, sp_impl_simple), (136, sp_impl_locate)]
theorem gok_impl_LatticeInside : GOK Try.prog g_impl_LatticeInside := gok_cons gk_impl_simple en_impl_simple (gok_cons gk_impl_locate en_impl_locate (gok0))
theorem lk_impl_LatticeInside_impl_simple : lkG g_impl_LatticeInside 90 = sp_impl_simple := rfl
theorem lk_impl_LatticeInside_impl_locate : lkG g_impl_LatticeInside 136 = sp_impl_locate := rfl
def h_impl_LatticeInside : List (Nat × HSpec) := []
theorem hok_impl_LatticeInside : HOK Try.prog h_impl_LatticeInside := hok0
theorem c_impl_LatticeInside (l : List Pt)  : HCall Try.prog 62 [.sl 2 (encPs l)] (sm ([])) (bif latB l then .ref 0 0 (latL l).length false else .sl 2 []) (sm (bif latB l then [(0, .arr 2 35 (encPs (latL l)))] else [])) := by
  refine hcall_V (G := g_impl_LatticeInside) (H := []) [(3, [(0, 6), (1, 6), (2, 6), (3, 6), (4, 6), (5, 6), (0, 7), (1, 7), (2, 7), (3, 7), (4, 7), (5, 7), (6, 7), (3, 8), (4, 8), (5, 8)])] tabOK mixed gok_impl_LatticeInside hok_impl_LatticeInside Try.func62 rfl Try.ntmps62 Try.results62 rfl (by kernel_rfl) fun F hN hlen => ?_
  simp only [sm]
  have el := len_encPs l
  cases hs : simpB l with
  | false =>
    have hb := lat_no1 hs
    simp only [hb, cond_false]
    simp only [V_seq, V_ret, V_region, V_cond, brW_true, W_nil, W_cons, effOp2, KN_seq, KXr_nil, KXr_seq, QE, asB, effOp, effPure, effCall, giveUp, hasAll, pureV, ofC, strip, lkT, lkH, ISt.app, opI, gO, gB, allB, gval, wrapG, dstOK, setD, lendV, lendP, lent, lentP, idsV, idsL, lkHS, flat, clean, callArgs, callFn, allLent, enumT, conv, conv0, Op.operands, reduceIte, reduceCtorEq, cond_true, Bool.or_false, Bool.not_true, Bool.not_false, Nat.reduceLT, Nat.reduceEqDiff, true_and, and_self, implies_true, List.map_cons, List.map_nil, List.nil_append, List.cons_append, List.append_nil, ex_clo, or_self, hN, isPs_enc, toPs_enc, FinH, resA, resV, SLe, SLe0, convTm, convHp, sm, lk_impl_LatticeInside_impl_simple, sp_impl_simple, hs]
    exact ⟨id, by simp⟩
  | true =>
    obtain ⟨hk, h3, h20, hnd⟩ := ring_facts (simp_ring hs)
    have hm := okPs_sm hk
    have hz : l.length ≤ 1000000 := by omega
    have h00 : 0 < l.length := by omega
    have g00 := getD_encPs h00
    have g00' : (encPs l).getD (Int.toNat 0) .junk = .agg [.num .i64 (pAt l 0).1, .num .i64 (pAt l 0).2] := g00
    simp only [V_seq, V_skip, V_block, V_region, V_draw, V_cond, brW_false, drawW, WS_nil, pairsOf, W_nil, W_cons, effOp2, WI_nil, WI_cons, KN_seq, dynOK, indB, farB, seeB, see, isStore, freshB, heapy, asB, effOp, effPure, effNew, effAlloc, effStore, effCall, giveUp, hasAll, skipE, pureV, storeV, partV, eltV, loadV, iaddrV, lenV, over, solid, IV.cells, ofC, strip, lkT, lkH, ISt.app, opI, gO, gB, allB, gval, wrapG, dstOK, setD, mentTm, mentHp, IV.ment, IV.mentL, oneI, lendV, lendP, lent, lentP, idsV, idsL, lkHS, flat, clean, callArgs, callFn, allLent, enumT, Op.operands, Call.operands, List.append_toArray, reduceIte, reduceCtorEq, cond_true, cond_false, Bool.or_false, Bool.or_true, Bool.and_true, Bool.and_false, Bool.and_eq_true, Bool.not_true, Bool.not_false, Nat.reduceAdd, Nat.reduceLT, Nat.reduceLeDiff, Nat.reduceEqDiff, Nat.reduceBEq, Nat.zero_add, ne_eq, not_false_eq_true, beq_self_eq_true, true_and, and_true, and_false, and_self, implies_true, forall_const, List.map_cons, List.map_nil, List.nil_append, List.cons_append, List.append_nil, List.all_cons, List.all_nil, List.getD_cons_zero, List.getD_cons_succ, List.length_cons, List.length_nil, List.take_succ_cons, List.take_zero, List.take_nil, List.drop_succ_cons, List.drop_zero, List.drop_nil, ex_clo, or_self, tab35, tab39, hN, isPs_enc, toPs_enc, lk_impl_LatticeInside_impl_simple, sp_impl_simple, hs, el, g00']
    refine ⟨⟨by omega, by omega⟩, ⟨by omega, by omega⟩, ?_⟩
    refine V_loop (α := Nat) ⟨tabOK, mixed, gok_impl_LatticeInside, hok_impl_LatticeInside⟩ (by kernel_rfl) (fun i => i ≤ l.length) (fun i => ⟨[(22, .num .i64 i), (21, .num .i64 l.length), (20, .sl 2 (encPs l)), (4, .ptr 4 0), (3, .ptr 3 0), (0, .sl 2 (encPs l))], [(4, some (.box 35 [.num .i64 (highF l i).1, .num .i64 (highF l i).2])), (3, some (.box 35 [.num .i64 (lowF l i).1, .num .i64 (lowF l i).2]))]⟩) (fun i => l.length - i) 0 id (Nat.zero_le _) (by simp [SLe, SLe0, convTm, convHp, convB, conv, conv0, convL, lkT, lkH, clean, lowF, highF]) ?_
    intro i hi
    simp only [V_seq, V_region, V_cond, W_nil, W_cons, effOp2, KN_seq, asB, effOp, effPure, pureV, binV, strip, lkT, ISt.app, opI, gO, gB, allB, gval, wrapG, dstOK, setD, Op.operands, reduceIte, reduceCtorEq, Nat.reduceLT, Nat.reduceEqDiff, true_and, and_self, implies_true, List.nil_append, List.cons_append, hN]
    refine brW_some (fun h => ?_) (fun h => ?_)
    · have hi' : i < l.length := by simpa using h
      have g0 := getD_encPs hi'
      have hw := wr_succ hi' (by rw [maxLen_eq]; omega)
      have q1 := lowF_step l i
      have q2 := highF_step l i
      simp only [V_seq, V_skip, V_block, V_region, W_nil, W_cons, effOp2, KN_seq, KN_block, KN_back, effOp, effPure, effNew, effAlloc, effStore, skipE, pureV, storeV, binV, partV, eltV, loadV, faddrV, iaddrV, over, solid, buildL, IV.cells, ofC, strip, lkT, lkH, ISt.app, opI, gO, gB, allB, gval, wrapG, dstOK, setD, mentTm, mentHp, IV.ment, IV.mentL, oneI, IBlk.shape, Op.operands, Call.operands, List.append_toArray, reduceIte, reduceCtorEq, cond_true, Bool.or_false, Bool.and_true, Nat.reduceAdd, Nat.reduceLT, Nat.reduceLeDiff, Nat.reduceEqDiff, Nat.reduceBEq, Nat.add_zero, Nat.zero_add, ne_eq, not_false_eq_true, true_and, and_true, and_false, and_self, implies_true, forall_const, List.map_cons, List.map_nil, List.nil_append, List.cons_append, List.append_nil, List.all_cons, List.all_nil, Option.map_some, List.getD_cons_zero, List.getD_cons_succ, List.length_cons, List.length_nil, List.take_succ_cons, List.take_zero, List.take_nil, List.drop_succ_cons, List.drop_zero, List.drop_nil, tab3, tab35, tab39, hN, Int.toNat_natCast, el, g0, hw]
      repeat refine And.intro (by first | omega | (simp; done) | (simp; omega)) ?_
      exact ⟨i + 1, id, by simp only []; omega, by simp only []; omega, by simp only [q1, q2]; exact by simp [SLe, SLe0, convTm, convHp, convB, conv, conv0, convL, lkT, lkH, clean]⟩
    · have hie : i = l.length := by simp at h; omega
      subst hie
      have hbd := lat_bd hs
      have hlb : latB l = !(decide (1000 < latW l * latH l)) := by rw [latB, hs, Bool.true_and]
      have hWd : latW l = (highP2 l).1 - (lowP l).1 + 1 := rfl
      have hHd : latH l = (highP2 l).2 - (lowP l).2 + 1 := rfl
      have hLd : latL l = colsN (insB l) (lowP l).1 (lowP l).2 (latH l).toNat (latW l).toNat := rfl
      have ea : highF l l.length = highP2 l := rfl
      have eb : lowF l l.length = lowP l := rfl
      rw [ea, eb]
      obtain ⟨lo, hlo⟩ : ∃ p, lowP l = p := ⟨_, rfl⟩
      obtain ⟨hh, hhh⟩ : ∃ p, highP2 l = p := ⟨_, rfl⟩
      rw [hlo, hhh] at hbd hWd hHd
      rw [hlo] at hLd
      rw [hlo, hhh]
      have w1 : IntKind.i64.wrap (hh.1 - lo.1) = hh.1 - lo.1 := wr (by omega) (by omega)
      have w2 : IntKind.i64.wrap (hh.1 - lo.1 + 1) = hh.1 - lo.1 + 1 := wr (by omega) (by omega)
      have w3 : IntKind.i64.wrap (hh.2 - lo.2) = hh.2 - lo.2 := wr (by omega) (by omega)
      have w4 : IntKind.i64.wrap (hh.2 - lo.2 + 1) = hh.2 - lo.2 + 1 := wr (by omega) (by omega)
      have mb := mulb (x := hh.1 - lo.1 + 1) (y := hh.2 - lo.2 + 1) (A := 2001) (B := 2001) (by omega) (by omega)
      have w5 : IntKind.i64.wrap ((hh.1 - lo.1 + 1) * (hh.2 - lo.2 + 1)) = latW l * latH l := by rw [hWd, hHd]; exact wr (by omega) (by omega)
      cases hc : decide (1000 < latW l * latH l) with
      | true =>
        have hb : latB l = false := by rw [hlb, hc]; rfl
        simp only [hb, cond_false]
        simp only [V_seq, V_ret, V_exit, V_region, V_cond, brW_true, W_nil, W_cons, effOp2, KN_seq, KXr_nil, KXr_seq, KXe_nil, KXe_seq, KXe_block, KXe_back, QE, asB, effOp, effPure, pureV, binV, partV, loadV, faddrV, ofC, strip, lkT, lkH, ISt.app, opI, gO, gB, allB, gval, wrapG, dstOK, setD, conv, conv0, IBlk.shape, Op.operands, reduceIte, reduceCtorEq, Nat.reduceAdd, Nat.reduceLT, Nat.reduceLeDiff, Nat.reduceEqDiff, Nat.add_zero, Nat.zero_add, true_and, and_self, implies_true, List.map_nil, List.nil_append, List.cons_append, Option.map_some, List.getD_cons_zero, List.getD_cons_succ, List.length_cons, List.length_nil, List.take_succ_cons, List.take_zero, List.take_nil, List.drop_succ_cons, List.drop_zero, tab3, tab35, hN, FinH, resA, resV, SLe, SLe0, convTm, convHp, sm, w1, w2, w3, w4, w5, hc]
        exact ⟨id, by simp⟩
      | false =>
        have hb : latB l = true := by rw [hlb, hc]; rfl
        simp only [hb, cond_true]
        have hle : latW l * latH l ≤ 1000 := by have := of_decide_eq_false hc; omega
        obtain ⟨W, hW⟩ : ∃ W : Nat, latW l = W := ⟨(latW l).toNat, by omega⟩
        obtain ⟨H, hH⟩ : ∃ H : Nat, latH l = H := ⟨(latH l).toNat, by omega⟩
        rw [hW, hH] at hle hLd
        rw [hW] at hWd
        rw [hH] at hHd
        rw [Int.toNat_natCast, Int.toNat_natCast] at hLd
        have hWH : H * W ≤ 1000 := by
          have : (W : Int) * (H : Int) = ((H * W : Nat) : Int) := by rw [Int.natCast_mul, Int.mul_comm]
          rw [this] at hle; omega
        have hcl := colsN_len (insB l) lo.1 lo.2 H
        simp only [V_seq, V_skip, V_exit, V_block, V_region, V_cond, brW_false, W_nil, W_cons, effOp2, KN_seq, KXe_nil, KXe_seq, KXe_block, KXe_back, QE, asB, effOp, effPure, effNew, effMake, skipE, pureV, binV, partV, loadV, faddrV, ofC, strip, lkT, lkH, ISt.app, opI, gO, gB, allB, gval, wrapG, dstOK, setD, mentTm, mentHp, IV.ment, IV.mentL, zeroElt, noId', IBlk.shape, Op.operands, reduceIte, reduceCtorEq, cond_true, Bool.or_false, Bool.and_true, Nat.reduceAdd, Nat.reduceLT, Nat.reduceLeDiff, Nat.reduceEqDiff, Nat.reduceBEq, Nat.add_zero, Nat.zero_add, ne_eq, not_false_eq_true, true_and, and_true, and_self, implies_true, List.nil_append, List.cons_append, List.all_cons, List.all_nil, Option.map_some, List.getD_cons_zero, List.getD_cons_succ, List.length_cons, List.length_nil, List.take_succ_cons, List.take_zero, List.take_nil, List.drop_succ_cons, List.drop_zero, tab3, tab35, tab39, hN, FinH, sm, w1, w2, w3, w4, w5, hc]
        refine ⟨⟨by omega, by omega, by omega, by omega⟩, ?_⟩
        refine V_loop (α := Nat) ⟨tabOK, mixed, gok_impl_LatticeInside, hok_impl_LatticeInside⟩ (by kernel_rfl) (fun i => i ≤ W) (fun i => ⟨[(8, .num .i64 (lo.1 + (i : Int))), (7, .ref 63 0 (colsN (insB l) lo.1 lo.2 H i).length true), (4, .ptr 4 0), (3, .ptr 3 0), (0, .sl 2 (encPs l))], [(63, some (.arr 2 35 (encPs (colsN (insB l) lo.1 lo.2 H i)))), (4, some (.box 35 [.num .i64 hh.1, .num .i64 hh.2])), (3, some (.box 35 [.num .i64 lo.1, .num .i64 lo.2]))]⟩) (fun i => W - i) 0 id (Nat.zero_le _) (by simp [SLe, SLe0, convTm, convHp, convB, conv, conv0, convL, lkT, lkH, clean, colsN, encPs]) ?_
        intro i hi
        have hcl1 := hcl i
        have hHi : H * i ≤ H * W := Nat.mul_le_mul (Nat.le_refl _) hi
        rcases Nat.lt_or_ge i W with hi' | hge
        · have d1 : decide (lo.1 + (i : Int) ≤ hh.1) = true := by simp only [decide_eq_true_eq]; omega
          simp only [V_seq, V_skip, V_block, V_region, V_cond, brW_true, W_nil, W_cons, effOp2, KN_seq, asB, effOp, effPure, pureV, binV, partV, loadV, faddrV, strip, lkT, lkH, ISt.app, opI, gO, gB, allB, gval, wrapG, dstOK, setD, IBlk.shape, Op.operands, reduceIte, reduceCtorEq, Nat.reduceAdd, Nat.reduceLT, Nat.reduceLeDiff, Nat.reduceEqDiff, Nat.add_zero, Nat.zero_add, true_and, and_self, implies_true, List.nil_append, List.cons_append, Option.map_some, List.getD_cons_zero, List.getD_cons_succ, List.length_cons, List.length_nil, List.take_succ_cons, List.take_zero, List.take_nil, List.drop_succ_cons, List.drop_zero, tab3, tab35, hN, d1]
          refine V_loop (α := Nat) ⟨tabOK, mixed, gok_impl_LatticeInside, hok_impl_LatticeInside⟩ (by kernel_rfl) (fun k => k ≤ H) (fun k => ⟨[(9, .num .i64 (lo.2 + (k : Int))), (8, .num .i64 (lo.1 + (i : Int))), (7, .ref 63 0 (colsN (insB l) lo.1 lo.2 H i ++ colN (insB l) (lo.1 + i) lo.2 k).length true), (4, .ptr 4 0), (3, .ptr 3 0), (0, .sl 2 (encPs l))], [(63, some (.arr 2 35 (encPs (colsN (insB l) lo.1 lo.2 H i ++ colN (insB l) (lo.1 + i) lo.2 k)))), (4, some (.box 35 [.num .i64 hh.1, .num .i64 hh.2])), (3, some (.box 35 [.num .i64 lo.1, .num .i64 lo.2]))]⟩) (fun k => H - k) 0 id (Nat.zero_le _) (by simp [SLe, SLe0, convTm, convHp, convB, conv, conv0, convL, lkT, lkH, clean, colN, encPs]; exact (List.take_of_length_le (by simp)).symm) ?_
          intro k hk
          have hcl2 := colN_len (insB l) (lo.1 + i) lo.2 k
          have hst : colsN (insB l) lo.1 lo.2 H i ++ colN (insB l) (lo.1 + i) lo.2 (k + 1) = (colsN (insB l) lo.1 lo.2 H i ++ colN (insB l) (lo.1 + i) lo.2 k) ++ if insB l (lo.1 + i, lo.2 + k) then [(lo.1 + (i : Int), lo.2 + (k : Int))] else [] := by
            rw [colN, List.append_assoc]
          have hst2 : colsN (insB l) lo.1 lo.2 H (i + 1) = colsN (insB l) lo.1 lo.2 H i ++ colN (insB l) (lo.1 + i) lo.2 H := rfl
          have hs1 : (colsN (insB l) lo.1 lo.2 H i).length ≤ 1000 := by omega
          have hs2 : (colN (insB l) (lo.1 + i) lo.2 k).length ≤ 2001 := by omega
          have hsz : (colsN (insB l) lo.1 lo.2 H i ++ colN (insB l) (lo.1 + i) lo.2 k).length ≤ 100000 := by rw [List.length_append]; omega
          rcases Nat.lt_or_ge k H with hk' | hge
          · have d2 : decide (lo.2 + (k : Int) ≤ hh.2) = true := by simp only [decide_eq_true_eq]; omega
            have hq : Sm (lo.1 + (i : Int), lo.2 + (k : Int)) := okP_sm (by simp only [okP, inR, Bool.and_eq_true, decide_eq_true_eq]; omega)
            have w6 : IntKind.i64.wrap (lo.2 + (k : Int) + 1) = lo.2 + ((k + 1 : Nat) : Int) := by rw [wr (by omega) (by omega)]; omega
            have hin : (locR (lo.1 + (i : Int), lo.2 + (k : Int)) (edgesP l) false == 1) = insB l (lo.1 + (i : Int), lo.2 + (k : Int)) := rfl
            obtain ⟨out, hout⟩ : ∃ out, colsN (insB l) lo.1 lo.2 H i ++ colN (insB l) (lo.1 + i) lo.2 k = out := ⟨_, rfl⟩
            rw [hout] at hst hsz ⊢
            have eo := len_encPs out
            have hx : ∃ k ty es, IBlk.arr 2 35 (encPs out) = IBlk.arr k ty es := ⟨_, _, _, rfl⟩
            cases hc2 : insB l (lo.1 + (i : Int), lo.2 + (k : Int)) with
            | true =>
              rw [hc2, if_pos rfl] at hst
              simp only [V_seq, V_skip, V_block, V_region, V_cond, brW_true, W_nil, W_cons, effOp2, KN_seq, KN_block, KN_back, asB, effOp, effPure, effNew, effAlloc, effBuildSlice, effFrz, frz, tmpsOf, effStore, effAppend, effZeros, effCall, giveUp, hasAll, skipE, pureV, storeV, srcV, refId, binV, partV, loadV, faddrV, over, solid, buildL, IV.cells, ofC, strip, lkT, lkH, ISt.app, opI, gO, gB, allB, gval, wrapG, dstOK, setD, mentTm, mentHp, IV.ment, IV.mentL, partsL, eltsI, eltI, oneI, noId', lendV, lendP, lent, lentP, idsV, idsL, lkHS, flat, clean, callArgs, callFn, allLent, IBlk.shape, Op.operands, reduceIte, reduceCtorEq, cond_true, Bool.or_false, Bool.and_true, Bool.not_true, Nat.reduceAdd, Nat.reduceMul, Nat.reduceLT, Nat.reduceLeDiff, Nat.reduceEqDiff, Nat.reduceBEq, Nat.zero_add, ne_eq, not_false_eq_true, true_and, and_true, and_false, and_self, implies_true, List.map_cons, List.map_nil, List.nil_append, List.cons_append, List.append_nil, List.all_cons, List.all_nil, Option.some.injEq, Option.map_some, List.getD_cons_zero, List.getD_cons_succ, List.length_cons, List.length_nil, List.take_succ_cons, List.take_zero, List.take_nil, List.drop_succ_cons, List.drop_zero, List.drop_nil, ex_clo, or_self, tab3, tab35, tab39, hN, isPs_enc, toPs_enc, lk_impl_LatticeInside_impl_locate, sp_impl_locate, d2, hm, hz, hq, hin, hc2, w6, eo]
              repeat refine And.intro (by first | omega | (simp; done) | (simp; omega)) ?_
              refine ⟨k + 1, fun x => if x = 63 then 90 else x, by simp only []; omega, by simp only []; omega, ?_⟩
              have hen : encPs (out ++ [(lo.1 + (i : Int), lo.2 + (k : Int))]) = (encPs out).take out.length ++ [IV.agg [.num .i64 (lo.1 + (i : Int)), .num .i64 (lo.2 + (k : Int))]] := by
                rw [← encPs_app, List.take_of_length_le (Nat.le_of_eq eo)]; rfl
              simp only [hst, hen, List.length_append]
              simp [SLe, SLe0, convTm, convHp, convB, conv, conv0, convL, lkT, lkH, clean]
              exact ⟨(List.take_of_length_le (by rw [List.length_append, List.length_take]; exact Nat.le_refl _)).symm, fun id a1 a2 a3 => by omega⟩
            | false =>
              rw [hc2, if_neg (by decide), List.append_nil] at hst
              simp only [V_seq, V_skip, V_block, V_region, V_cond, brW_true, brW_false, W_nil, W_cons, effOp2, KN_seq, KN_block, KN_back, asB, effOp, effPure, effNew, effAlloc, effStore, effCall, giveUp, hasAll, skipE, pureV, storeV, binV, partV, loadV, faddrV, over, solid, buildL, IV.cells, ofC, strip, lkT, lkH, ISt.app, opI, gO, gB, allB, gval, wrapG, dstOK, setD, mentTm, mentHp, IV.ment, IV.mentL, oneI, lendV, lendP, lent, lentP, idsV, idsL, lkHS, flat, clean, callArgs, callFn, allLent, IBlk.shape, Op.operands, reduceIte, reduceCtorEq, cond_true, Bool.or_false, Bool.and_true, Bool.not_true, Nat.reduceAdd, Nat.reduceLT, Nat.reduceLeDiff, Nat.reduceEqDiff, Nat.reduceBEq, Nat.zero_add, ne_eq, not_false_eq_true, true_and, and_false, and_self, implies_true, List.map_cons, List.map_nil, List.nil_append, List.cons_append, List.append_nil, List.all_cons, List.all_nil, Option.map_some, List.getD_cons_zero, List.getD_cons_succ, List.length_cons, List.length_nil, List.take_succ_cons, List.take_zero, List.take_nil, List.drop_succ_cons, List.drop_zero, List.drop_nil, ex_clo, or_self, tab3, tab35, hN, isPs_enc, toPs_enc, lk_impl_LatticeInside_impl_locate, sp_impl_locate, d2, hm, hz, hq, hin, hc2, w6]
              repeat refine And.intro (by first | omega | (simp; done) | (simp; omega)) ?_
              refine ⟨k + 1, id, by simp only []; omega, by simp only []; omega, ?_⟩
              simp only [hst]
              exact by simp [SLe, SLe0, convTm, convHp, convB, conv, conv0, convL, lkT, lkH, clean]
          · have hkH : k = H := by omega
            subst hkH
            have d2 : decide (lo.2 + (k : Int) ≤ hh.2) = false := by simp only [decide_eq_false_iff_not]; omega
            have w7 : IntKind.i64.wrap (lo.1 + (i : Int) + 1) = lo.1 + ((i + 1 : Nat) : Int) := by rw [wr (by omega) (by omega)]; omega
            simp only [V_seq, V_ret, V_exit, V_region, V_cond, brW_false, W_nil, W_cons, effOp2, KN_seq, KN_block, KN_back, KXr_nil, KXe_nil, KXe_seq, KXe_block, KXe_back, QE, asB, effOp, effPure, Option.isSome_some, pureV, binV, partV, loadV, faddrV, sliceV, lenV, ofC, strip, lkT, lkH, ISt.app, opI, gO, gB, allB, gval, wrapG, dstOK, setD, conv, conv0, IBlk.shape, Op.operands, Call.operands, List.append_toArray, Array.append_empty, Option.toArray_none, Option.toArray_some, reduceIte, reduceCtorEq, Nat.reduceAdd, Nat.reduceLT, Nat.reduceLeDiff, Nat.reduceEqDiff, Nat.zero_add, ne_eq, not_false_eq_true, true_and, and_true, and_self, false_implies, implies_true, forall_const, List.map_cons, List.map_nil, List.nil_append, List.cons_append, Option.map_some, Option.map_none, List.getD_cons_zero, List.getD_cons_succ, List.length_cons, List.length_nil, List.take_succ_cons, List.take_nil, List.drop_succ_cons, List.drop_zero, Bool.false_eq_true, tab3, tab35, tab39, hN, Int.toNat_natCast, FinH, resA, resV, SLe, SLe0, convTm, convHp, convB, d2, w7]
            refine ⟨i + 1, id, by simp only []; omega, by simp only []; omega, ?_⟩
            simp only [hst2]
            exact by simp [SLe, SLe0, convTm, convHp, convB, conv, conv0, convL, lkT, lkH, clean]
        · have hiW : i = W := by omega
          subst hiW
          have d1 : decide (lo.1 + (i : Int) ≤ hh.1) = false := by simp only [decide_eq_false_iff_not]; omega
          rw [← hLd]
          have eL := len_encPs (latL l)
          simp only [V_seq, V_ret, V_exit, V_region, V_cond, brW_false, W_nil, W_cons, effOp2, KN_seq, KXr_nil, KXe_nil, KXe_seq, KXe_block, KXe_back, QE, asB, effOp, effPure, Option.isSome_some, pureV, binV, partV, loadV, faddrV, sliceV, lenV, strip, lkT, lkH, ISt.app, opI, gO, gB, allB, gval, wrapG, dstOK, setD, conv, conv0, IBlk.shape, Op.operands, Call.operands, List.append_toArray, Array.append_empty, Option.toArray_none, Option.toArray_some, reduceIte, reduceCtorEq, Nat.reduceAdd, Nat.reduceLT, Nat.reduceLeDiff, Nat.reduceEqDiff, Nat.add_zero, Nat.zero_add, ne_eq, not_false_eq_true, true_and, and_true, and_self, false_implies, implies_true, forall_const, List.map_cons, List.map_nil, List.nil_append, List.cons_append, Option.map_some, Option.map_none, List.getD_cons_zero, List.length_cons, List.length_nil, List.take_succ_cons, List.take_zero, List.drop_zero, Bool.false_eq_true, tab3, tab35, tab39, hN, Int.toNat_natCast, FinH, resA, resV, SLe, SLe0, convTm, convHp, convB, d1]
          exact ⟨by omega, fun x => if x = 0 then 63 else x, by simp; omega⟩
def hs_impl_LatticeInside : HSpec := ⟨[true], fun xs hp => match xs, hp with | [.sl 2 es], [] => (isPs es) | _, _ => False, fun xs hp => match xs, hp with | [.sl 2 es], [] => (fun (l : List Pt) => (bif latB l then .ref 0 0 (latL l).length false else .sl 2 [] : IV)) (toPs es) | _, _ => .junk, fun xs hp => match xs, hp with | [.sl 2 es], [] => (fun (l : List Pt) => (bif latB l then [(0, .arr 2 35 (encPs (latL l)))] else [] : List (Nat × IBlk))) (toPs es) | _, _ => []⟩
theorem hk_impl_LatticeInside : ∀ args hp, hs_impl_LatticeInside.pre args hp → HCall Try.prog 62 args (sm hp) (hs_impl_LatticeInside.val args hp) (sm (hs_impl_LatticeInside.hval args hp)) := by
  intro args hp h
  unfold hs_impl_LatticeInside at h ⊢; simp only at h ⊢; split at h
  · obtain ⟨l, rfl⟩ := isP_ex h; rw [toPs_enc] at *; exact c_impl_LatticeInside l
  · exact h.elim
theorem en_impl_LatticeInside : Enters Try.prog 62 := enters_of Try.func62 (by kernel_rfl) rfl


def g_spec_LatticeInside : List (Nat × PSpec) := [(134, sp_spec_isSimple), (135, sp_spec_locate)]
theorem gok_spec_LatticeInside : GOK Try.prog g_spec_LatticeInside := gok_cons gk_spec_isSimple en_spec_isSimple (gok_cons gk_spec_locate en_spec_locate (gok0))
theorem lk_spec_LatticeInside_spec_isSimple : lkG g_spec_LatticeInside 134 = sp_spec_isSimple := rfl
theorem lk_spec_LatticeInside_spec_locate : lkG g_spec_LatticeInside 135 = sp_spec_locate := rfl
def h_spec_LatticeInside : List (Nat × HSpec) := []
theorem hok_spec_LatticeInside : HOK Try.prog h_spec_LatticeInside := hok0
theorem c_spec_LatticeInside (l : List Pt)  : ICall Try.prog 61 [.sl 2 (encPs l)] (.sl 2 (encPs (if latB l then latL l else []))) := by
  refine icall_V (G := g_spec_LatticeInside) (H := []) [] tabOK mixed gok_spec_LatticeInside hok_spec_LatticeInside Try.func61 rfl Try.ntmps61 Try.results61 rfl (by kernel_rfl) fun F hN hlen => ?_
  have el := len_encPs l
  cases hs : simpB l with
  | false =>
    have hb := lat_no1 hs
    have hv : (if latB l = true then latL l else []) = [] := by rw [hb]; rfl
    simp only [V_seq, V_ret, V_region, V_cond, brW_true, W_nil, W_cons, effOp2, KN_seq, KXr_nil, KXr_seq, QE, asB, effOp, effPure, effNew, effBuildSlice, effFrz, frz, tmpsOf, effCall, giveUp, hasAll, skipE, pureV, ofC, strip, lkT, lkH, ISt.app, opI, gO, gB, allB, gval, wrapG, dstOK, setD, mentTm, mentHp, IV.ment, partsL, eltsI, lendV, lendP, lent, lentP, idsV, idsL, lkHS, flat, clean, callArgs, callFn, allLent, enumT, Gives, Ideal.Fin, conv, conv0, Op.operands, reduceIte, reduceCtorEq, cond_true, Bool.or_false, Bool.not_true, Bool.not_false, Nat.reduceMul, Nat.reduceLT, Nat.reduceLeDiff, Nat.reduceEqDiff, ne_eq, not_false_eq_true, and_self, implies_true, List.map_cons, List.map_nil, List.nil_append, List.cons_append, List.append_nil, List.length_nil, ex_clo, or_self, tab35, tab39, hN, isPs_enc, toPs_enc, lk_spec_LatticeInside_spec_isSimple, sp_spec_isSimple, hs, hv, encPs_nil]
  | true =>
    obtain ⟨hk, h3, h20, hnd⟩ := ring_facts (simp_ring hs)
    have hm := okPs_sm hk
    have hz : l.length ≤ 1000000 := by omega
    have h00 : 0 < l.length := by omega
    have g00 := getD_encPs h00
    have g00' : (encPs l).getD (Int.toNat 0) .junk = .agg [.num .i64 (pAt l 0).1, .num .i64 (pAt l 0).2] := g00
    simp only [V_seq, V_skip, V_block, V_region, V_cond, brW_false, W_nil, W_cons, effOp2, KN_seq, asB, effOp, effPure, effNew, effAlloc, effBuildSlice, effFrz, frz, tmpsOf, effStore, effCall, giveUp, hasAll, skipE, pureV, storeV, partV, eltV, loadV, iaddrV, over, solid, IV.cells, ofC, strip, lkT, lkH, ISt.app, opI, gO, gB, allB, gval, wrapG, dstOK, setD, mentTm, mentHp, IV.ment, IV.mentL, partsL, eltsI, oneI, lendV, lendP, lent, lentP, idsV, idsL, lkHS, flat, clean, callArgs, callFn, allLent, enumT, Op.operands, reduceIte, reduceCtorEq, cond_true, Bool.or_false, Bool.and_true, Bool.not_true, Nat.reduceAdd, Nat.reduceMul, Nat.reduceLT, Nat.reduceLeDiff, Nat.reduceEqDiff, Nat.reduceBEq, Nat.zero_add, ne_eq, not_false_eq_true, true_and, and_true, and_false, and_self, implies_true, forall_const, List.map_cons, List.map_nil, List.nil_append, List.cons_append, List.append_nil, List.all_cons, List.all_nil, List.getD_cons_zero, List.length_cons, List.length_nil, List.take_succ_cons, List.take_zero, List.take_nil, List.drop_succ_cons, List.drop_zero, List.drop_nil, ex_clo, or_self, tab35, tab39, hN, isPs_enc, toPs_enc, lk_spec_LatticeInside_spec_isSimple, sp_spec_isSimple, hs, el, g00']
    refine ⟨⟨by omega, by omega⟩, ⟨by omega, by omega⟩, ?_⟩
    refine V_loop (α := Nat) ⟨tabOK, mixed, gok_spec_LatticeInside, hok_spec_LatticeInside⟩ (by kernel_rfl) (fun i => i ≤ l.length) (fun i => ⟨[(6, .num .i64 i), (5, .ptr 5 0), (4, .ptr 4 0), (3, .ref 9 0 0 true), (0, .sl 2 (encPs l))], [(5, some (.box 35 [.num .i64 (highF l i).1, .num .i64 (highF l i).2])), (4, some (.box 35 [.num .i64 (lowF l i).1, .num .i64 (lowF l i).2])), (9, some (.arr 2 35 []))]⟩) (fun i => l.length - i) 0 id (Nat.zero_le _) (by simp [SLe, SLe0, convTm, convHp, convB, conv, conv0, convL, lkT, lkH, clean, lowF, highF]) ?_
    intro i hi
    simp only [V_seq, V_region, V_cond, W_nil, W_cons, effOp2, KN_seq, asB, effOp, effPure, pureV, binV, lenV, strip, lkT, ISt.app, opI, gO, gB, allB, gval, wrapG, dstOK, setD, Op.operands, Call.operands, List.append_toArray, reduceIte, reduceCtorEq, Nat.reduceLT, Nat.reduceEqDiff, ne_eq, not_false_eq_true, true_and, and_self, implies_true, List.nil_append, List.cons_append, tab39, hN, el]
    refine brW_some (fun h => ?_) (fun h => ?_)
    · have hi' : i < l.length := by simpa using h
      have g0 := getD_encPs hi'
      have hw := wr_succ hi' (by rw [maxLen_eq]; omega)
      have q1 := lowF_step l i
      have q2 := highF_step l i
      simp only [V_seq, V_skip, V_block, V_region, V_draw, drawW, pairsOf, W_nil, W_cons, WD_nil, WD_cons, effOp2, KN_seq, KN_block, KN_back, effOp, effPure, effStore, pureV, storeV, binV, partV, eltV, loadV, faddrV, iaddrV, over, solid, buildL, IV.cells, ofC, strip, lkT, lkH, ISt.app, opI, gO, gB, allB, gval, wrapG, dstOK, setD, oneI, IBlk.shape, Op.operands, Call.operands, List.append_toArray, reduceIte, reduceCtorEq, cond_true, Bool.and_true, Nat.reduceAdd, Nat.reduceLT, Nat.reduceLeDiff, Nat.reduceEqDiff, Nat.add_zero, Nat.zero_add, ne_eq, not_false_eq_true, true_and, and_true, and_false, and_self, implies_true, forall_const, List.map_cons, List.map_nil, List.nil_append, List.cons_append, List.append_nil, List.all_cons, List.all_nil, Option.map_some, List.getD_cons_zero, List.getD_cons_succ, List.length_cons, List.length_nil, List.take_succ_cons, List.take_zero, List.take_nil, List.drop_succ_cons, List.drop_zero, List.drop_nil, tab3, tab35, tab39, hN, Int.toNat_natCast, el, g0, hw]
      repeat refine And.intro (by first | omega | (simp; done) | (simp; omega)) ?_
      exact ⟨i + 1, id, by simp only []; omega, by simp only []; omega, by simp only [q1, q2]; exact by simp [SLe, SLe0, convTm, convHp, convB, conv, conv0, convL, lkT, lkH, clean]⟩
    · have hie : i = l.length := by simp at h; omega
      subst hie
      have hbd := lat_bd hs
      have hlb : latB l = !(decide (1000 < latW l * latH l)) := by rw [latB, hs, Bool.true_and]
      have hWd : latW l = (highP2 l).1 - (lowP l).1 + 1 := rfl
      have hHd : latH l = (highP2 l).2 - (lowP l).2 + 1 := rfl
      have hLd : latL l = colsN (insB l) (lowP l).1 (lowP l).2 (latH l).toNat (latW l).toNat := rfl
      have ea : highF l l.length = highP2 l := rfl
      have eb : lowF l l.length = lowP l := rfl
      rw [ea, eb]
      obtain ⟨lo, hlo⟩ : ∃ p, lowP l = p := ⟨_, rfl⟩
      obtain ⟨hh, hhh⟩ : ∃ p, highP2 l = p := ⟨_, rfl⟩
      rw [hlo, hhh] at hbd hWd hHd
      rw [hlo] at hLd
      rw [hlo, hhh]
      have w1 : IntKind.i64.wrap (hh.1 - lo.1) = hh.1 - lo.1 := wr (by omega) (by omega)
      have w2 : IntKind.i64.wrap (hh.1 - lo.1 + 1) = hh.1 - lo.1 + 1 := wr (by omega) (by omega)
      have w3 : IntKind.i64.wrap (hh.2 - lo.2) = hh.2 - lo.2 := wr (by omega) (by omega)
      have w4 : IntKind.i64.wrap (hh.2 - lo.2 + 1) = hh.2 - lo.2 + 1 := wr (by omega) (by omega)
      have mb := mulb (x := hh.1 - lo.1 + 1) (y := hh.2 - lo.2 + 1) (A := 2001) (B := 2001) (by omega) (by omega)
      have w5 : IntKind.i64.wrap ((hh.1 - lo.1 + 1) * (hh.2 - lo.2 + 1)) = latW l * latH l := by rw [hWd, hHd]; exact wr (by omega) (by omega)
      cases hc : decide (1000 < latW l * latH l) with
      | true =>
        have hb : latB l = false := by rw [hlb, hc]; rfl
        have hv : (if latB l = true then latL l else []) = [] := by rw [hb]; rfl
        simp only [V_seq, V_ret, V_exit, V_region, V_cond, brW_true, W_nil, W_cons, effOp2, KN_seq, KXr_nil, KXr_seq, KXe_nil, KXe_seq, KXe_block, KXe_back, QE, asB, effOp, effPure, pureV, binV, partV, loadV, faddrV, ofC, strip, lkT, lkH, ISt.app, opI, gO, gB, allB, gval, wrapG, dstOK, setD, Gives, Ideal.Fin, conv, conv0, IBlk.shape, Op.operands, reduceIte, reduceCtorEq, Nat.reduceAdd, Nat.reduceLT, Nat.reduceLeDiff, Nat.reduceEqDiff, Nat.add_zero, Nat.zero_add, and_self, implies_true, List.nil_append, List.cons_append, Option.map_some, List.getD_cons_zero, List.getD_cons_succ, List.length_cons, List.length_nil, List.take_succ_cons, List.take_zero, List.take_nil, List.drop_succ_cons, List.drop_zero, tab3, tab35, hN, w1, w2, w3, w4, w5, hc, hv, encPs_nil]
      | false =>
        have hb : latB l = true := by rw [hlb, hc]; rfl
        have hv : (if latB l = true then latL l else []) = latL l := by rw [hb]; rfl
        have hle : latW l * latH l ≤ 1000 := by have := of_decide_eq_false hc; omega
        obtain ⟨W, hW⟩ : ∃ W : Nat, latW l = W := ⟨(latW l).toNat, by omega⟩
        obtain ⟨H, hH⟩ : ∃ H : Nat, latH l = H := ⟨(latH l).toNat, by omega⟩
        rw [hW, hH] at hle hLd
        rw [hW] at hWd
        rw [hH] at hHd
        rw [Int.toNat_natCast, Int.toNat_natCast] at hLd
        have hWH : H * W ≤ 1000 := by
          have : (W : Int) * (H : Int) = ((H * W : Nat) : Int) := by rw [Int.natCast_mul, Int.mul_comm]
          rw [this] at hle; omega
        have hcl := colsN_len (insB l) lo.1 lo.2 H
        rw [hv]
        simp only [V_seq, V_skip, V_exit, V_block, V_region, V_cond, brW_false, W_nil, W_cons, effOp2, KN_seq, KXe_nil, KXe_seq, KXe_block, KXe_back, QE, asB, effOp, effPure, pureV, binV, partV, loadV, faddrV, ofC, strip, lkT, lkH, ISt.app, opI, gO, gB, allB, gval, wrapG, dstOK, setD, Ideal.Fin, IBlk.shape, Op.operands, reduceIte, reduceCtorEq, Nat.reduceAdd, Nat.reduceLT, Nat.reduceLeDiff, Nat.reduceEqDiff, Nat.add_zero, Nat.zero_add, true_and, and_self, implies_true, List.nil_append, List.cons_append, Option.map_some, List.getD_cons_zero, List.getD_cons_succ, List.length_cons, List.length_nil, List.take_succ_cons, List.take_zero, List.take_nil, List.drop_succ_cons, List.drop_zero, tab3, tab35, hN, w1, w2, w3, w4, w5, hc]
        refine V_loop (α := Nat) ⟨tabOK, mixed, gok_spec_LatticeInside, hok_spec_LatticeInside⟩ (by kernel_rfl) (fun i => i ≤ W) (fun i => ⟨[(7, .num .i64 (lo.1 + (i : Int))), (3, .ref 9 0 (colsN (insB l) lo.1 lo.2 H i).length true), (5, .ptr 5 0), (4, .ptr 4 0), (0, .sl 2 (encPs l))], [(9, some (.arr 2 35 (encPs (colsN (insB l) lo.1 lo.2 H i)))), (5, some (.box 35 [.num .i64 hh.1, .num .i64 hh.2])), (4, some (.box 35 [.num .i64 lo.1, .num .i64 lo.2]))]⟩) (fun i => W - i) 0 id (Nat.zero_le _) (by simp [SLe, SLe0, convTm, convHp, convB, conv, conv0, convL, lkT, lkH, clean, colsN, encPs]) ?_
        intro i hi
        have hcl1 := hcl i
        have hHi : H * i ≤ H * W := Nat.mul_le_mul (Nat.le_refl _) hi
        rcases Nat.lt_or_ge i W with hi' | hge
        · have d1 : decide (lo.1 + (i : Int) ≤ hh.1) = true := by simp only [decide_eq_true_eq]; omega
          simp only [V_seq, V_skip, V_block, V_region, V_cond, brW_true, W_nil, W_cons, effOp2, KN_seq, asB, effOp, effPure, pureV, binV, partV, loadV, faddrV, strip, lkT, lkH, ISt.app, opI, gO, gB, allB, gval, wrapG, dstOK, setD, IBlk.shape, Op.operands, reduceIte, reduceCtorEq, Nat.reduceAdd, Nat.reduceLT, Nat.reduceLeDiff, Nat.reduceEqDiff, Nat.add_zero, Nat.zero_add, true_and, and_self, implies_true, List.nil_append, List.cons_append, Option.map_some, List.getD_cons_zero, List.getD_cons_succ, List.length_cons, List.length_nil, List.take_succ_cons, List.take_zero, List.take_nil, List.drop_succ_cons, List.drop_zero, tab3, tab35, hN, d1]
          refine V_loop (α := Nat) ⟨tabOK, mixed, gok_spec_LatticeInside, hok_spec_LatticeInside⟩ (by kernel_rfl) (fun k => k ≤ H) (fun k => ⟨[(8, .num .i64 (lo.2 + (k : Int))), (7, .num .i64 (lo.1 + (i : Int))), (3, .ref 9 0 (colsN (insB l) lo.1 lo.2 H i ++ colN (insB l) (lo.1 + i) lo.2 k).length true), (5, .ptr 5 0), (4, .ptr 4 0), (0, .sl 2 (encPs l))], [(9, some (.arr 2 35 (encPs (colsN (insB l) lo.1 lo.2 H i ++ colN (insB l) (lo.1 + i) lo.2 k)))), (5, some (.box 35 [.num .i64 hh.1, .num .i64 hh.2])), (4, some (.box 35 [.num .i64 lo.1, .num .i64 lo.2]))]⟩) (fun k => H - k) 0 id (Nat.zero_le _) (by simp [SLe, SLe0, convTm, convHp, convB, conv, conv0, convL, lkT, lkH, clean, colN, encPs]; exact (List.take_of_length_le (by simp)).symm) ?_
          intro k hk
          have hcl2 := colN_len (insB l) (lo.1 + i) lo.2 k
          have hst : colsN (insB l) lo.1 lo.2 H i ++ colN (insB l) (lo.1 + i) lo.2 (k + 1) = (colsN (insB l) lo.1 lo.2 H i ++ colN (insB l) (lo.1 + i) lo.2 k) ++ if insB l (lo.1 + i, lo.2 + k) then [(lo.1 + (i : Int), lo.2 + (k : Int))] else [] := by
            rw [colN, List.append_assoc]
          have hst2 : colsN (insB l) lo.1 lo.2 H (i + 1) = colsN (insB l) lo.1 lo.2 H i ++ colN (insB l) (lo.1 + i) lo.2 H := rfl
          have hs1 : (colsN (insB l) lo.1 lo.2 H i).length ≤ 1000 := by omega
          have hs2 : (colN (insB l) (lo.1 + i) lo.2 k).length ≤ 2001 := by omega
          have hsz : (colsN (insB l) lo.1 lo.2 H i ++ colN (insB l) (lo.1 + i) lo.2 k).length ≤ 100000 := by rw [List.length_append]; omega
          rcases Nat.lt_or_ge k H with hk' | hge
          · have d2 : decide (lo.2 + (k : Int) ≤ hh.2) = true := by simp only [decide_eq_true_eq]; omega
            have hq : Sm (lo.1 + (i : Int), lo.2 + (k : Int)) := okP_sm (by simp only [okP, inR, Bool.and_eq_true, decide_eq_true_eq]; omega)
            have w6 : IntKind.i64.wrap (lo.2 + (k : Int) + 1) = lo.2 + ((k + 1 : Nat) : Int) := by rw [wr (by omega) (by omega)]; omega
            have hin : (locR (lo.1 + (i : Int), lo.2 + (k : Int)) (edgesP l) false == 1) = insB l (lo.1 + (i : Int), lo.2 + (k : Int)) := rfl
            obtain ⟨out, hout⟩ : ∃ out, colsN (insB l) lo.1 lo.2 H i ++ colN (insB l) (lo.1 + i) lo.2 k = out := ⟨_, rfl⟩
            rw [hout] at hst hsz ⊢
            have eo := len_encPs out
            have hx : ∃ k ty es, IBlk.arr 2 35 (encPs out) = IBlk.arr k ty es := ⟨_, _, _, rfl⟩
            cases hc2 : insB l (lo.1 + (i : Int), lo.2 + (k : Int)) with
            | true =>
              rw [hc2, if_pos rfl] at hst
              simp only [V_seq, V_skip, V_block, V_region, V_cond, brW_true, W_nil, W_cons, effOp2, KN_seq, KN_block, KN_back, asB, effOp, effPure, effNew, effBuildSlice, effFrz, frz, tmpsOf, effAppend, effZeros, effCall, giveUp, hasAll, skipE, pureV, srcV, refId, binV, partV, loadV, faddrV, over, solid, buildL, IV.cells, ofC, strip, lkT, lkH, ISt.app, opI, gO, gB, allB, gval, wrapG, dstOK, setD, mentTm, mentHp, IV.ment, IV.mentL, partsL, eltsI, eltI, oneI, noId', lendV, lendP, lent, lentP, idsV, idsL, lkHS, flat, clean, callArgs, callFn, allLent, IBlk.shape, Op.operands, reduceIte, reduceCtorEq, cond_true, Bool.or_false, Bool.and_true, Bool.not_true, Nat.reduceAdd, Nat.reduceMul, Nat.reduceLT, Nat.reduceLeDiff, Nat.reduceEqDiff, Nat.reduceBEq, Nat.zero_add, ne_eq, not_false_eq_true, true_and, and_true, and_self, implies_true, List.map_cons, List.map_nil, List.nil_append, List.cons_append, List.append_nil, List.all_cons, List.all_nil, Option.some.injEq, Option.map_some, List.getD_cons_zero, List.getD_cons_succ, List.length_cons, List.length_nil, List.take_succ_cons, List.take_zero, List.take_nil, List.drop_succ_cons, List.drop_zero, List.drop_nil, ex_clo, or_self, tab3, tab35, tab39, hN, isPs_enc, toPs_enc, lk_spec_LatticeInside_spec_locate, sp_spec_locate, d2, hm, hz, hq, hin, hc2, w6, eo]
              repeat refine And.intro (by first | omega | (simp; done) | (simp; omega)) ?_
              refine ⟨k + 1, fun x => if x = 9 then 100 else x, by simp only []; omega, by simp only []; omega, ?_⟩
              have hen : encPs (out ++ [(lo.1 + (i : Int), lo.2 + (k : Int))]) = (encPs out).take out.length ++ [IV.agg [.num .i64 (lo.1 + (i : Int)), .num .i64 (lo.2 + (k : Int))]] := by
                rw [← encPs_app, List.take_of_length_le (Nat.le_of_eq eo)]; rfl
              simp only [hst, hen, List.length_append]
              simp [SLe, SLe0, convTm, convHp, convB, conv, conv0, convL, lkT, lkH, clean]
              exact ⟨(List.take_of_length_le (by rw [List.length_append, List.length_take]; exact Nat.le_refl _)).symm, fun id a1 a2 a3 => by omega⟩
            | false =>
              rw [hc2, if_neg (by decide), List.append_nil] at hst
              simp only [V_seq, V_skip, V_block, V_region, V_cond, brW_true, brW_false, W_nil, W_cons, effOp2, KN_seq, KN_block, KN_back, asB, effOp, effPure, effCall, giveUp, hasAll, pureV, binV, partV, loadV, faddrV, over, solid, buildL, IV.cells, ofC, strip, lkT, lkH, ISt.app, opI, gO, gB, allB, gval, wrapG, dstOK, setD, lendV, lendP, lent, lentP, idsV, idsL, lkHS, flat, clean, callArgs, callFn, allLent, IBlk.shape, Op.operands, reduceIte, reduceCtorEq, cond_true, Bool.or_false, Bool.not_true, Nat.reduceAdd, Nat.reduceLT, Nat.reduceLeDiff, Nat.reduceEqDiff, Nat.zero_add, ne_eq, not_false_eq_true, true_and, and_self, implies_true, List.map_cons, List.map_nil, List.nil_append, List.cons_append, List.append_nil, Option.map_some, List.getD_cons_zero, List.getD_cons_succ, List.length_cons, List.length_nil, List.take_succ_cons, List.take_zero, List.take_nil, List.drop_succ_cons, List.drop_zero, List.drop_nil, ex_clo, or_self, tab3, tab35, hN, isPs_enc, toPs_enc, lk_spec_LatticeInside_spec_locate, sp_spec_locate, d2, hm, hz, hq, hin, hc2, w6]
              repeat refine And.intro (by first | omega | (simp; done) | (simp; omega)) ?_
              refine ⟨k + 1, id, by simp only []; omega, by simp only []; omega, ?_⟩
              simp only [hst]
              exact by simp [SLe, SLe0, convTm, convHp, convB, conv, conv0, convL, lkT, lkH, clean]
          · have hkH : k = H := by omega
            subst hkH
            have d2 : decide (lo.2 + (k : Int) ≤ hh.2) = false := by simp only [decide_eq_false_iff_not]; omega
            have w7 : IntKind.i64.wrap (lo.1 + (i : Int) + 1) = lo.1 + ((i + 1 : Nat) : Int) := by rw [wr (by omega) (by omega)]; omega
            simp only [V_seq, V_ret, V_exit, V_region, V_cond, brW_false, W_nil, W_cons, effOp2, KN_seq, KN_block, KN_back, KXr_nil, KXe_nil, KXe_seq, KXe_block, KXe_back, QE, asB, effOp, effPure, pureV, binV, partV, loadV, faddrV, ofC, strip, lkT, lkH, ISt.app, opI, gO, gB, allB, gval, wrapG, dstOK, setD, Gives, Ideal.Fin, conv, conv0, IBlk.shape, Op.operands, reduceIte, reduceCtorEq, Nat.reduceAdd, Nat.reduceLT, Nat.reduceLeDiff, Nat.reduceEqDiff, Nat.zero_add, ne_eq, true_and, and_self, implies_true, List.nil_append, List.cons_append, Option.some.injEq, Option.map_some, List.getD_cons_zero, List.getD_cons_succ, List.length_cons, List.length_nil, List.take_succ_cons, List.take_nil, List.drop_succ_cons, List.drop_zero, tab3, tab35, hN, d2, w7]
            refine ⟨i + 1, id, by simp only []; omega, by simp only []; omega, ?_⟩
            simp only [hst2]
            exact by simp [SLe, SLe0, convTm, convHp, convB, conv, conv0, convL, lkT, lkH, clean]
        · have hiW : i = W := by omega
          subst hiW
          have d1 : decide (lo.1 + (i : Int) ≤ hh.1) = false := by simp only [decide_eq_false_iff_not]; omega
          rw [← hLd]
          have eL := len_encPs (latL l)
          simp only [V_seq, V_ret, V_exit, V_region, V_cond, brW_false, W_nil, W_cons, effOp2, KN_seq, KXr_nil, KXe_nil, KXe_seq, KXe_block, KXe_back, QE, asB, effOp, effPure, pureV, binV, partV, loadV, faddrV, strip, lkT, lkH, ISt.app, opI, gO, gB, allB, gval, wrapG, dstOK, setD, Gives, Ideal.Fin, conv, conv0, IBlk.shape, Op.operands, reduceIte, reduceCtorEq, Nat.reduceAdd, Nat.reduceLT, Nat.reduceLeDiff, Nat.reduceEqDiff, Nat.add_zero, Nat.zero_add, ne_eq, true_and, and_self, implies_true, List.nil_append, List.cons_append, Option.some.injEq, Option.map_some, List.getD_cons_zero, List.length_cons, List.length_nil, List.take_succ_cons, List.take_zero, List.drop_zero, tab3, tab35, hN, d1]
          exact ⟨_, _, rfl, by omega, (List.take_of_length_le (by omega)).symm, by simp⟩
def sp_spec_LatticeInside : PSpec := ⟨fun xs => match xs with | [.sl 2 les] => isPs les | _ => False, fun xs => match xs with | [.sl _ les] => (fun (l : List Pt) => .sl 2 (encPs (if latB l then latL l else []))) (toPs les) | _ => .junk, false⟩
theorem gk_spec_LatticeInside : ∀ args, sp_spec_LatticeInside.pre args → ICall Try.prog 61 args (sp_spec_LatticeInside.val args) := by
  intro args h
  unfold sp_spec_LatticeInside at h ⊢; simp only at h ⊢; split at h
  · have h0 := h
    obtain ⟨l0, rfl⟩ := isP_ex h0
    simp only [toPs_enc] at *
    exact c_spec_LatticeInside _ 
  · exact h.elim
theorem en_spec_LatticeInside : Enters Try.prog 61 := enters_of Try.func61 (by kernel_rfl) rfl


def g_impl_LatticeInside_e : List (Nat × PSpec) := [(90, sp_impl_simple), (136, sp_impl_locate)]
theorem gok_impl_LatticeInside_e : GOK Try.prog g_impl_LatticeInside_e := gok_cons gk_impl_simple en_impl_simple (gok_cons gk_impl_locate en_impl_locate (gok0))
theorem lk_impl_LatticeInside_e_impl_simple : lkG g_impl_LatticeInside_e 90 = sp_impl_simple := rfl
theorem lk_impl_LatticeInside_e_impl_locate : lkG g_impl_LatticeInside_e 136 = sp_impl_locate := rfl
def h_impl_LatticeInside_e : List (Nat × HSpec) := []
theorem hok_impl_LatticeInside_e : HOK Try.prog h_impl_LatticeInside_e := hok0
theorem c_impl_LatticeInside_e (l : List Pt) (hs : latB l = false) : ICallF Try.prog 62 [.sl 2 (encPs l)] (.sl 2 []) := by
  have h := c_impl_LatticeInside l
  simp only [hs, cond_false] at h
  exact icallF_nil (icall_of_hcall id h (by simp [sm, SLe0, convTm, convHp, conv, conv0, lkT]) rfl)
def sp_impl_LatticeInside_e : PSpec := ⟨fun xs => match xs with | [.sl 2 les] => isPs les ∧ ((fun (l : List Pt) => latB l = false) (toPs les)) | _ => False, fun xs => match xs with | [.sl _ les] => (fun (l : List Pt) => .sl 2 []) (toPs les) | _ => .junk, true⟩
theorem gk_impl_LatticeInside_e : ∀ args, sp_impl_LatticeInside_e.pre args → ICallF Try.prog 62 args (sp_impl_LatticeInside_e.val args) ∧ ∀ id, (sp_impl_LatticeInside_e.val args).ment id = false := by
  intro args h
  unfold sp_impl_LatticeInside_e at h ⊢; simp only at h ⊢; split at h
  · obtain ⟨h0, h1⟩ := h
    obtain ⟨l0, rfl⟩ := isP_ex h0
    simp only [toPs_enc] at *
    exact ⟨c_impl_LatticeInside_e _ h1, fun id => rfl⟩
  · exact h.elim
theorem en_impl_LatticeInside_e : Enters Try.prog 62 := enters_of Try.func62 (by kernel_rfl) rfl

def g_impl_LatticeInside_h : List (Nat × PSpec) := []
theorem gok_impl_LatticeInside_h : GOK Try.prog g_impl_LatticeInside_h := gok0
def h_impl_LatticeInside_h : List (Nat × HSpec) := []
theorem hok_impl_LatticeInside_h : HOK Try.prog h_impl_LatticeInside_h := hok0
theorem c_impl_LatticeInside_h (l : List Pt) (hs : latB l = true) : HCall Try.prog 62 [.sl 2 (encPs l)] (sm ([])) (.ref 0 0 (latL l).length false) (sm ([(0, .arr 2 35 (encPs (latL l)))])) := by
  have h := c_impl_LatticeInside l
  simpa only [hs, cond_true] using h
def hs_impl_LatticeInside_h : HSpec := ⟨[true], fun xs hp => match xs, hp with | [.sl 2 es], [] => (isPs es) ∧ ((fun (l : List Pt) => latB l = true) (toPs es)) | _, _ => False, fun xs hp => match xs, hp with | [.sl 2 es], [] => (fun (l : List Pt) => (.ref 0 0 (latL l).length false : IV)) (toPs es) | _, _ => .junk, fun xs hp => match xs, hp with | [.sl 2 es], [] => (fun (l : List Pt) => ([(0, .arr 2 35 (encPs (latL l)))] : List (Nat × IBlk))) (toPs es) | _, _ => []⟩
theorem hk_impl_LatticeInside_h : ∀ args hp, hs_impl_LatticeInside_h.pre args hp → HCall Try.prog 62 args (sm hp) (hs_impl_LatticeInside_h.val args hp) (sm (hs_impl_LatticeInside_h.hval args hp)) := by
  intro args hp h
  unfold hs_impl_LatticeInside_h at h ⊢; simp only at h ⊢; split at h
  · obtain ⟨h1, h2⟩ := h; obtain ⟨l, rfl⟩ := isP_ex h1; rw [toPs_enc] at *; exact c_impl_LatticeInside_h l h2
  · exact h.elim
theorem en_impl_LatticeInside_h : Enters Try.prog 62 := enters_of Try.func62 (by kernel_rfl) rfl

def g_e_exlat_a : List (Nat × PSpec) := [(46, sp_laws_szPointS), (61, sp_spec_LatticeInside), (62, sp_impl_LatticeInside_e), (51, sp_laws_eqPointS), (63, sp_laws_heldPointS)]
theorem gok_e_exlat_a : GOK Try.prog g_e_exlat_a := gok_cons gk_laws_szPointS en_laws_szPointS (gok_cons gk_spec_LatticeInside en_spec_LatticeInside (gok_consO gk_impl_LatticeInside_e en_impl_LatticeInside_e (gok_cons gk_laws_eqPointS en_laws_eqPointS (gok_cons gk_laws_heldPointS en_laws_heldPointS (gok0)))))
theorem lk_e_exlat_a_laws_szPointS : lkG g_e_exlat_a 46 = sp_laws_szPointS := rfl
theorem lk_e_exlat_a_spec_LatticeInside : lkG g_e_exlat_a 61 = sp_spec_LatticeInside := rfl
theorem lk_e_exlat_a_impl_LatticeInside_e : lkG g_e_exlat_a 62 = sp_impl_LatticeInside_e := rfl
theorem lk_e_exlat_a_laws_eqPointS : lkG g_e_exlat_a 51 = sp_laws_eqPointS := rfl
theorem lk_e_exlat_a_laws_heldPointS : lkG g_e_exlat_a 63 = sp_laws_heldPointS := rfl
def h_e_exlat_a : List (Nat × HSpec) := [(48, hs_laws_toPointS), (52, hs_laws_markPointS_or)]
theorem hok_e_exlat_a : HOK Try.prog h_e_exlat_a := hok_cons hk_laws_toPointS en_laws_toPointS (hok_cons hk_laws_markPointS_or en_laws_markPointS_or (hok0))
theorem lh_e_exlat_a_laws_szPointS : lkHS h_e_exlat_a 46 = none := rfl
theorem lh_e_exlat_a_spec_LatticeInside : lkHS h_e_exlat_a 61 = none := rfl
theorem lh_e_exlat_a_impl_LatticeInside_e : lkHS h_e_exlat_a 62 = none := rfl
theorem lh_e_exlat_a_laws_eqPointS : lkHS h_e_exlat_a 51 = none := rfl
theorem lh_e_exlat_a_laws_heldPointS : lkHS h_e_exlat_a 63 = none := rfl
theorem lh_e_exlat_a_laws_toPointS : lkHS h_e_exlat_a 48 = some hs_laws_toPointS := rfl
theorem lh_e_exlat_a_laws_markPointS_or : lkHS h_e_exlat_a 52 = some hs_laws_markPointS_or := rfl
def g_e_exlat_b : List (Nat × PSpec) := [(46, sp_laws_szPointS), (61, sp_spec_LatticeInside), (51, sp_laws_eqPointS), (63, sp_laws_heldPointS)]
theorem gok_e_exlat_b : GOK Try.prog g_e_exlat_b := gok_cons gk_laws_szPointS en_laws_szPointS (gok_cons gk_spec_LatticeInside en_spec_LatticeInside (gok_cons gk_laws_eqPointS en_laws_eqPointS (gok_cons gk_laws_heldPointS en_laws_heldPointS (gok0))))
theorem lk_e_exlat_b_laws_szPointS : lkG g_e_exlat_b 46 = sp_laws_szPointS := rfl
theorem lk_e_exlat_b_spec_LatticeInside : lkG g_e_exlat_b 61 = sp_spec_LatticeInside := rfl
theorem lk_e_exlat_b_laws_eqPointS : lkG g_e_exlat_b 51 = sp_laws_eqPointS := rfl
theorem lk_e_exlat_b_laws_heldPointS : lkG g_e_exlat_b 63 = sp_laws_heldPointS := rfl
def h_e_exlat_b : List (Nat × HSpec) := [(48, hs_laws_toPointS), (62, hs_impl_LatticeInside_h), (52, hs_laws_markPointS)]
theorem hok_e_exlat_b : HOK Try.prog h_e_exlat_b := hok_cons hk_laws_toPointS en_laws_toPointS (hok_cons hk_impl_LatticeInside_h en_impl_LatticeInside_h (hok_cons hk_laws_markPointS en_laws_markPointS (hok0)))
theorem lh_e_exlat_b_laws_szPointS : lkHS h_e_exlat_b 46 = none := rfl
theorem lh_e_exlat_b_spec_LatticeInside : lkHS h_e_exlat_b 61 = none := rfl
theorem lh_e_exlat_b_laws_eqPointS : lkHS h_e_exlat_b 51 = none := rfl
theorem lh_e_exlat_b_laws_heldPointS : lkHS h_e_exlat_b 63 = none := rfl
theorem lh_e_exlat_b_laws_toPointS : lkHS h_e_exlat_b 48 = some hs_laws_toPointS := rfl
theorem lh_e_exlat_b_impl_LatticeInside_h : lkHS h_e_exlat_b 62 = some hs_impl_LatticeInside_h := rfl
theorem lh_e_exlat_b_laws_markPointS : lkHS h_e_exlat_b 52 = some hs_laws_markPointS := rfl
theorem latL_len {l : List Pt} (h : latB l = true) : (latL l).length ≤ 1000 := by
  have hs : simpB l = true := by cases hc : simpB l with | true => rfl | false => rw [lat_no1 hc] at h; cases h
  have hbd := lat_bd hs
  have h1 := colsN_len (insB l) (lowP l).1 (lowP l).2 (latH l).toNat (latW l).toNat
  have h2 : latW l * latH l ≤ 1000 := by
    rw [latB, hs, Bool.true_and] at h
    simp at h; exact h
  obtain ⟨W, hW⟩ : ∃ W : Nat, latW l = W := ⟨(latW l).toNat, by unfold latW; omega⟩
  obtain ⟨H, hH⟩ : ∃ H : Nat, latH l = H := ⟨(latH l).toNat, by unfold latH; omega⟩
  have hL : latL l = colsN (insB l) (lowP l).1 (lowP l).2 (latH l).toNat (latW l).toNat := rfl
  rw [← hL, hW, hH, Int.toNat_natCast, Int.toNat_natCast] at h1
  rw [hW, hH] at h2
  have : (W : Int) * (H : Int) = ((H * W : Nat) : Int) := by rw [Int.natCast_mul, Int.mul_comm]
  rw [this] at h2
  omega
def g_laws_FnExactLatticeInside : List (Nat × PSpec) := [(46, sp_laws_szPointS), (61, sp_spec_LatticeInside), (51, sp_laws_eqPointS), (63, sp_laws_heldPointS)]
theorem gok_laws_FnExactLatticeInside : GOK Try.prog g_laws_FnExactLatticeInside := gok_cons gk_laws_szPointS en_laws_szPointS (gok_cons gk_spec_LatticeInside en_spec_LatticeInside (gok_cons gk_laws_eqPointS en_laws_eqPointS (gok_cons gk_laws_heldPointS en_laws_heldPointS (gok0))))
theorem lk_laws_FnExactLatticeInside_laws_szPointS : lkG g_laws_FnExactLatticeInside 46 = sp_laws_szPointS := rfl
theorem lk_laws_FnExactLatticeInside_spec_LatticeInside : lkG g_laws_FnExactLatticeInside 61 = sp_spec_LatticeInside := rfl
theorem lk_laws_FnExactLatticeInside_laws_eqPointS : lkG g_laws_FnExactLatticeInside 51 = sp_laws_eqPointS := rfl
theorem lk_laws_FnExactLatticeInside_laws_heldPointS : lkG g_laws_FnExactLatticeInside 63 = sp_laws_heldPointS := rfl
def h_laws_FnExactLatticeInside : List (Nat × HSpec) := [(48, hs_laws_toPointS), (62, hs_impl_LatticeInside), (52, hs_laws_markPointS)]
theorem hok_laws_FnExactLatticeInside : HOK Try.prog h_laws_FnExactLatticeInside := hok_cons hk_laws_toPointS en_laws_toPointS (hok_cons hk_impl_LatticeInside en_impl_LatticeInside (hok_cons hk_laws_markPointS en_laws_markPointS (hok0)))
theorem lh_laws_FnExactLatticeInside_laws_szPointS : lkHS h_laws_FnExactLatticeInside 46 = none := rfl
theorem lh_laws_FnExactLatticeInside_spec_LatticeInside : lkHS h_laws_FnExactLatticeInside 61 = none := rfl
theorem lh_laws_FnExactLatticeInside_laws_eqPointS : lkHS h_laws_FnExactLatticeInside 51 = none := rfl
theorem lh_laws_FnExactLatticeInside_laws_heldPointS : lkHS h_laws_FnExactLatticeInside 63 = none := rfl
theorem lh_laws_FnExactLatticeInside_laws_toPointS : lkHS h_laws_FnExactLatticeInside 48 = some hs_laws_toPointS := rfl
theorem lh_laws_FnExactLatticeInside_impl_LatticeInside : lkHS h_laws_FnExactLatticeInside 62 = some hs_impl_LatticeInside := rfl
theorem lh_laws_FnExactLatticeInside_laws_markPointS : lkHS h_laws_FnExactLatticeInside 52 = some hs_laws_markPointS := rfl
theorem c_laws_FnExactLatticeInside (l : List Pt)  : ICall Try.prog 13 [.sl 2 (encPs l)] (.bool true) := by
  have hs : ∀ x : List Pt, (x == x) = true := fun x => by simp
  have hn : ∀ x : Int, (x != x) = false := fun x => by simp
  cases hc : latB l with
  | true =>
    have hsb : simpB l = true := by cases hd : simpB l with | true => rfl | false => rw [lat_no1 hd] at hc; cases hc
    obtain ⟨hk, h3, h20, hnd⟩ := ring_facts (simp_ring hsb)
    refine icall_V (G := g_e_exlat_b) (H := h_e_exlat_b) [] tabOK mixed gok_e_exlat_b hok_e_exlat_b Try.func13 rfl Try.ntmps13 Try.results13 rfl (by kernel_rfl) fun F hN hlen => ?_
    have el := len_encPs l
    have hh := latL_len hc
    have c : l.length ≤ 1048576 := by omega
    have c2 : l.length ≤ 2000000 := by omega
    have c3 : (latL l).length ≤ 2000000 := by omega
    have hv : szPointV l 1048576 = 1048576 - (l.length : Int) := if_neg (by omega)
    have d1 : decide (1048576 - (l.length : Int) < 0) = false := by simp only [decide_eq_false_iff_not]; omega
    have d2 : decide (1 + 2 * (l.length : Int) < 0) = false := by simp only [decide_eq_false_iff_not]; omega
    have d3 : decide (1 + 2 * ((latL l).length : Int) < 0) = false := by simp only [decide_eq_false_iff_not]; omega
    have eh := len_encPs (latL l)
    have em1 := len_encPs (marksP l.length 1)
    have em2 := len_encPs (marksP (latL l).length 1)
    rw [marksP_len] at em1 em2
    have ml := marksP_len l.length 1
    have ml2 := marksP_len (latL l).length 1
    have hd := held_marks (latL l).length 1
    have tk : (encPs (marksP (latL l).length 1)).take (latL l).length = encPs (marksP (latL l).length 1) := List.take_of_length_le (by omega)
    simp only [V_seq, V_skip, V_ret, V_region, V_cond, brW_false, W_nil, W_cons, effOp2, KN_seq, KXr_nil, QE, asB, effOp, effPure, effPick, effCall, giveUp, hasAll, Option.isSome_some, skipE, pureV, pickV, binV, ofC, strip, lkT, lkH, ISt.app, opI, gO, gB, allB, gval, wrapG, dstOK, setD, mentTm, mentHp, IV.ment, lendV, lendP, lent, lentP, idsV, idsL, flat, clean, callArgs, callFn, allLent, enumT, Gives, Ideal.Fin, conv, conv0, IBlk.shape, Op.operands, reduceIte, reduceCtorEq, cond_true, cond_false, Bool.or_false, Bool.or_true, Bool.and_true, Bool.not_true, Bool.not_false, Nat.reduceAdd, Nat.reduceSub, Nat.reduceMul, Nat.reduceLT, Nat.reduceLeDiff, Nat.reduceEqDiff, Nat.reduceBEq, Nat.add_zero, Nat.zero_add, not_false_eq_true, beq_self_eq_true, true_and, and_true, and_false, and_self, false_implies, implies_true, forall_const, List.map_cons, List.map_nil, List.nil_append, List.cons_append, List.append_nil, List.all_cons, List.all_nil, Option.map_some, Option.map_none, Option.bind_some, List.getElem?_cons_zero, List.getElem?_cons_succ, List.getD_cons_zero, List.drop_zero, ex_clo, or_true, or_self, Bool.true_eq_false, Bool.false_eq_true, hN, isPs_enc, toPs_enc, SLe0, convTm, convHp, convB, sm, effH, mkHC0, mkHC1, lendM, lentM, lentI, allHere, addIds, idsB, flatIds, reach, posn, renV, renL, renB, renH, numB, subHp, fwd, bk, bwd, nones, keyOK, noSl, flatBs, List.contains, List.elem, Option.isSome_some, List.nodup_nil, List.nodup_cons, List.not_mem_nil, Option.getD_some, lk_e_exlat_b_laws_szPointS, lk_e_exlat_b_spec_LatticeInside, lk_e_exlat_b_laws_eqPointS, lk_e_exlat_b_laws_heldPointS, sp_laws_szPointS, sp_spec_LatticeInside, sp_laws_eqPointS, sp_laws_heldPointS, lh_e_exlat_b_laws_szPointS, lh_e_exlat_b_spec_LatticeInside, lh_e_exlat_b_laws_eqPointS, lh_e_exlat_b_laws_heldPointS, lh_e_exlat_b_laws_toPointS, lh_e_exlat_b_impl_LatticeInside_h, lh_e_exlat_b_laws_markPointS, hs_laws_toPointS, hs_impl_LatticeInside_h, hs_laws_markPointS, el, hv, d1, d2, d3, c, c2, c3, hc, take_encPs, hn, eh, em1, em2, ml2, hd, tk, noSl_encPs]
    have tk1 : (encPs (marksP l.length 1)).take l.length = encPs (marksP l.length 1) := List.take_of_length_le (by omega)
    simp [tk1]
  | false =>
    refine icall_V (G := g_e_exlat_a) (H := h_e_exlat_a) [] tabOK mixed gok_e_exlat_a hok_e_exlat_a Try.func13 rfl Try.ntmps13 Try.results13 rfl (by kernel_rfl) fun F hN hlen => ?_
    have hl := hlen 0 2 _ rfl
    have el := len_encPs l
    rw [el] at hl
    by_cases c : l.length ≤ 1048576
    · have hv : szPointV l 1048576 = 1048576 - (l.length : Int) := if_neg (by omega)
      have c2 : l.length ≤ 2000000 := by omega
      have d1 : decide (1048576 - (l.length : Int) < 0) = false := by simp only [decide_eq_false_iff_not]; omega
      have d2 : decide (1 + 2 * (l.length : Int) < 0) = false := by simp only [decide_eq_false_iff_not]; omega
      have d3 : decide ((1 : Int) < 0) = false := by decide
      have em1 := len_encPs (marksP l.length 1)
      rw [marksP_len] at em1
      have ml := marksP_len l.length 1
      have hd : heldP [] 1 = 1 := rfl
      have hu : (if False then latL l else []) = [] := rfl
      simp only [V_seq, V_skip, V_ret, V_region, V_cond, brW_false, W_nil, W_cons, effOp2, KN_seq, KXr_nil, QE, asB, effOp, effPure, effPick, effCall, giveUp, hasAll, Option.isSome_some, skipE, pureV, pickV, binV, ofC, strip, lkT, lkH, ISt.app, opI, gO, gB, allB, gval, wrapG, dstOK, setD, mentTm, mentHp, IV.ment, lendV, lendP, lent, lentP, idsV, idsL, flat, clean, callArgs, callFn, allLent, enumT, Gives, Ideal.Fin, conv, conv0, IBlk.shape, Op.operands, reduceIte, reduceCtorEq, cond_true, cond_false, Bool.or_false, Bool.or_true, Bool.and_true, Bool.not_true, Bool.not_false, Nat.reduceAdd, Nat.reduceSub, Nat.reduceMul, Nat.reduceLT, Nat.reduceLeDiff, Nat.reduceEqDiff, Nat.reduceBEq, Nat.add_zero, Nat.zero_add, not_false_eq_true, beq_self_eq_true, true_and, and_true, and_false, and_self, implies_true, forall_const, List.map_cons, List.map_nil, List.nil_append, List.cons_append, List.append_nil, List.all_nil, Option.map_some, Option.map_none, Option.bind_some, List.getElem?_cons_zero, List.getElem?_cons_succ, List.getD_cons_zero, List.length_nil, List.drop_zero, ex_clo, true_or, or_true, or_self, Bool.true_eq_false, Bool.false_eq_true, hN, isPs_enc, toPs_enc, isPs_nil, toPs_nil, SLe0, convTm, convHp, convB, sm, effH, mkHC0, mkHC1, lendM, lentM, lentI, allHere, addIds, idsB, flatIds, reach, posn, renV, renL, renB, renH, numB, subHp, fwd, bk, bwd, nones, keyOK, noSl, flatBs, List.contains, List.elem, Option.isSome_some, List.nodup_nil, List.nodup_cons, List.not_mem_nil, Option.getD_some, lk_e_exlat_a_laws_szPointS, lk_e_exlat_a_spec_LatticeInside, lk_e_exlat_a_impl_LatticeInside_e, lk_e_exlat_a_laws_eqPointS, lk_e_exlat_a_laws_heldPointS, sp_laws_szPointS, sp_spec_LatticeInside, sp_impl_LatticeInside_e, sp_laws_eqPointS, sp_laws_heldPointS, lh_e_exlat_a_laws_szPointS, lh_e_exlat_a_spec_LatticeInside, lh_e_exlat_a_impl_LatticeInside_e, lh_e_exlat_a_laws_eqPointS, lh_e_exlat_a_laws_heldPointS, lh_e_exlat_a_laws_toPointS, lh_e_exlat_a_laws_markPointS_or, hs_laws_toPointS, hs_laws_markPointS_or, el, hv, d1, d2, d3, c, c2, take_encPs, hn, em1, hd, hc, encPs_nil, if_false, hs_or, sel_sl, hs_laws_markPointS, hs_laws_markPointS_n]
      have tk1 : (encPs (marksP l.length 1)).take l.length = encPs (marksP l.length 1) := List.take_of_length_le (by omega)
      simp [tk1]
    · have hv : szPointV l 1048576 = -1 := if_pos (by omega)
      have d1 : decide ((-1 : Int) < 0) = true := by decide
      simp only [V_seq, V_ret, V_region, V_cond, brW_true, W_nil, W_cons, effOp2, KN_seq, KXr_nil, KXr_seq, QE, asB, effOp, effPure, effCall, giveUp, hasAll, pureV, binV, ofC, strip, lkT, lkH, ISt.app, opI, gO, gB, allB, gval, wrapG, dstOK, setD, lendV, lendP, lent, lentP, idsV, idsL, flat, clean, callArgs, callFn, allLent, enumT, Gives, Ideal.Fin, conv, conv0, Op.operands, reduceIte, reduceCtorEq, cond_true, Bool.or_false, Bool.not_true, Nat.reduceLT, Nat.reduceEqDiff, true_and, and_true, and_self, implies_true, forall_const, List.map_cons, List.map_nil, List.nil_append, List.cons_append, List.append_nil, ex_clo, or_self, hN, isPs_enc, toPs_enc, lk_e_exlat_a_laws_szPointS, sp_laws_szPointS, lh_e_exlat_a_laws_szPointS, hv, d1]
      exact ⟨by omega, by omega⟩
def sp_laws_FnExactLatticeInside : PSpec := ⟨fun xs => match xs with | [.sl 2 les] => isPs les | _ => False, fun xs => match xs with | [.sl _ les] => (fun (l : List Pt) => .bool true) (toPs les) | _ => .junk, false⟩
theorem gk_laws_FnExactLatticeInside : ∀ args, sp_laws_FnExactLatticeInside.pre args → ICall Try.prog 13 args (sp_laws_FnExactLatticeInside.val args) := by
  intro args h
  unfold sp_laws_FnExactLatticeInside at h ⊢; simp only at h ⊢; split at h
  · have h0 := h
    obtain ⟨l0, rfl⟩ := isP_ex h0
    simp only [toPs_enc] at *
    exact c_laws_FnExactLatticeInside _ 
  · exact h.elim
theorem en_laws_FnExactLatticeInside : Enters Try.prog 13 := enters_of Try.func13 (by kernel_rfl) rfl


end Go.Proofs.Ytlgjhojihgmfhaa
