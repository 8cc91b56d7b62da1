/- The law on hulls of more points: the walk. -/
import Derived.Test.YtjlcbomigbolcaaBH
import Derived.Test.YtjlcbomigbolcaaB15
import Derived.Test.YtjlcbomigbolcaaPl25
set_option linter.unusedVariables false
set_option linter.unusedSimpArgs false
set_option maxHeartbeats 1600000
set_option maxRecDepth 100000
namespace Go.Proofs.Ytjlcbomigbolcaa
open Go Go.Ideal Go.Pl Go.Sort

def g_laws_FnHullMore : List (Nat × PSpec) := [(56, sp_spec_DrawHull), (57, sp_impl_Hull), (59, sp_spec_Hull), (58, sp_laws_equalPoints), (60, sp_impl_LocateConvex), (61, sp_impl_HullArea), (62, sp_impl_DoubleArea)]
theorem gok_laws_FnHullMore : GOK Try.prog g_laws_FnHullMore := gok_cons gk_spec_DrawHull en_spec_DrawHull (gok_cons gk_impl_Hull en_impl_Hull (gok_cons gk_spec_Hull en_spec_Hull (gok_cons gk_laws_equalPoints en_laws_equalPoints (gok_cons gk_impl_LocateConvex en_impl_LocateConvex (gok_cons gk_impl_HullArea en_impl_HullArea (gok_cons gk_impl_DoubleArea en_impl_DoubleArea (gok0)))))))
theorem lk_laws_FnHullMore_spec_DrawHull : lkG g_laws_FnHullMore 56 = sp_spec_DrawHull := rfl
theorem lk_laws_FnHullMore_impl_Hull : lkG g_laws_FnHullMore 57 = sp_impl_Hull := rfl
theorem lk_laws_FnHullMore_spec_Hull : lkG g_laws_FnHullMore 59 = sp_spec_Hull := rfl
theorem lk_laws_FnHullMore_laws_equalPoints : lkG g_laws_FnHullMore 58 = sp_laws_equalPoints := rfl
theorem lk_laws_FnHullMore_impl_LocateConvex : lkG g_laws_FnHullMore 60 = sp_impl_LocateConvex := rfl
theorem lk_laws_FnHullMore_impl_HullArea : lkG g_laws_FnHullMore 61 = sp_impl_HullArea := rfl
theorem lk_laws_FnHullMore_impl_DoubleArea : lkG g_laws_FnHullMore 62 = sp_impl_DoubleArea := rfl
def h_laws_FnHullMore : List (Nat × HSpec) := []
theorem hok_laws_FnHullMore : HOK Try.prog h_laws_FnHullMore := hok0
theorem c_laws_FnHullMore (b : List Int) (c : List Int) (hb : ∀ x ∈ b, 0 ≤ x ∧ x < 256) (hc : ∀ x ∈ c, 0 ≤ x ∧ x < 256) : ICall Try.prog 14 [.sl 1 (encBy b), .sl 1 (encBy c)] (.bool true) := by
  refine icall_V (G := g_laws_FnHullMore) (H := []) [] tabOK mixed gok_laws_FnHullMore hok_laws_FnHullMore Try.func14 rfl Try.ntmps14 Try.results14 rfl (by kernel_rfl) fun F hN hlen => ?_
  have eb := len_encBy b
  have ec := len_encBy c
  have hself : ∀ x : List Pt, (x == x) = true := fun x => by simp
  have ee : ∀ x : Int, (x == x) = true := fun x => by simp
  cases d1 : decide (1048576 < (b.length : Int)) with
  | true =>
    simp only [V_seq, V_ret, V_region, V_cond, brW_true, W_nil, W_cons, effOp2, KN_seq, KXr_nil, KXr_seq, QE, asB, effOp, effPure, effPick, pureV, pickV, binV, lenV, ofC, strip, lkT, lkH, ISt.app, opI, gO, gB, allB, gval, wrapG, dstOK, setD, clean, enumT, Gives, Ideal.Fin, conv, conv0, Op.operands, Call.operands, List.append_toArray, reduceIte, reduceCtorEq, cond_true, Nat.reduceLT, Nat.reduceEqDiff, Nat.zero_add, ne_eq, not_false_eq_true, and_true, and_self, false_implies, implies_true, List.nil_append, List.cons_append, List.append_nil, Option.bind_some, List.getElem?_cons_zero, List.getElem?_cons_succ, btf, Bool.true_eq_false, Bool.false_eq_true, tab22, hN, eb, d1]
  | false =>
    cases d2 : decide (1048576 < (c.length : Int)) with
    | true => simp only [V_seq, V_ret, V_region, V_cond, brW_true, W_nil, W_cons, effOp2, KN_seq, KXr_nil, KXr_seq, QE, asB, effOp, effPure, effPick, pureV, pickV, binV, lenV, ofC, strip, lkT, lkH, ISt.app, opI, gO, gB, allB, gval, wrapG, dstOK, setD, clean, enumT, Gives, Ideal.Fin, conv, conv0, Op.operands, Call.operands, List.append_toArray, reduceIte, reduceCtorEq, cond_false, Nat.reduceLT, Nat.reduceEqDiff, Nat.zero_add, ne_eq, not_false_eq_true, beq_self_eq_true, and_self, implies_true, List.nil_append, List.cons_append, List.append_nil, Option.bind_some, List.getElem?_cons_zero, List.getElem?_cons_succ, Bool.false_eq_true, tab22, hN, eb, ec, d1, d2]
    | false =>
      have hsz : b.length ≤ 1048576 := by simp at d1; omega
      have hsc : c.length ≤ 1048576 := by simp at d2; omega
      have hl := drawPts_len hb (show (0 : Int) ≤ 12 by omega) (by omega)
      obtain ⟨l, hl0⟩ : ∃ l, drawPts b 12 = l := ⟨_, rfl⟩
      rw [hl0] at hl
      have e1 := len_encPs l
      cases hk : okPs l with
      | false =>
        have d3 : decide (((0 : Nat) : Int) < 3) = true := rfl
        simp only [V_seq, V_skip, V_ret, V_region, V_cond, brW_true, brW_false, W_nil, W_cons, effOp2, KN_seq, KXr_nil, KXr_seq, QE, asB, effOp, effPure, effPick, effCall, giveUp, hasAll, pureV, pickV, binV, lenV, ofC, strip, lkT, lkH, ISt.app, opI, gO, gB, allB, gval, wrapG, dstOK, setD, lendV, lendP, lent, lentP, idsV, idsL, lkHS, flat, clean, callArgs, callFn, allLent, enumT, Gives, Ideal.Fin, conv, conv0, Op.operands, Call.operands, List.append_toArray, reduceIte, reduceCtorEq, cond_true, cond_false, Bool.or_false, Bool.not_true, Nat.reduceLT, Nat.reduceEqDiff, Nat.zero_add, ne_eq, not_false_eq_true, beq_self_eq_true, true_and, and_true, and_self, implies_true, forall_const, List.map_cons, List.map_nil, List.nil_append, List.cons_append, List.append_nil, Option.bind_some, List.getElem?_cons_zero, List.getElem?_cons_succ, List.length_nil, ex_clo, or_true, or_self, Bool.false_eq_true, tab22, tab67, hN, isPs_enc, toPs_enc, isBy_enc, toBy_enc, isPs_nil, toPs_nil, lk_laws_FnHullMore_spec_DrawHull, lk_laws_FnHullMore_impl_Hull, lk_laws_FnHullMore_spec_Hull, lk_laws_FnHullMore_laws_equalPoints, sp_spec_DrawHull, sp_impl_Hull, sp_spec_Hull, sp_laws_equalPoints, eb, ec, d1, d2, hsz, hl0, hk, encPs_nil, List.length_nil, d3]
        exact hb
      | true =>
        have e2 := len_encPs (hullP l)
        cases d3 : decide (((hullP l).length : Int) < 3) with
        | true =>
          simp only [V_seq, V_skip, V_ret, V_region, V_cond, brW_true, brW_false, W_nil, W_cons, effOp2, KN_seq, KXr_nil, KXr_seq, QE, asB, effOp, effPure, effPick, effCall, giveUp, hasAll, pureV, pickV, binV, lenV, ofC, strip, lkT, lkH, ISt.app, opI, gO, gB, allB, gval, wrapG, dstOK, setD, lendV, lendP, lent, lentP, idsV, idsL, lkHS, flat, clean, callArgs, callFn, allLent, enumT, Gives, Ideal.Fin, conv, conv0, Op.operands, Call.operands, List.append_toArray, reduceIte, reduceCtorEq, cond_true, cond_false, Bool.or_false, Bool.not_true, Nat.reduceLT, Nat.reduceEqDiff, Nat.zero_add, ne_eq, not_false_eq_true, beq_self_eq_true, true_and, and_true, and_self, implies_true, forall_const, List.map_cons, List.map_nil, List.nil_append, List.cons_append, List.append_nil, Option.bind_some, List.getElem?_cons_zero, List.getElem?_cons_succ, ex_clo, or_true, or_self, Bool.false_eq_true, tab22, tab67, hN, isPs_enc, toPs_enc, isBy_enc, toBy_enc, lk_laws_FnHullMore_spec_DrawHull, lk_laws_FnHullMore_impl_Hull, lk_laws_FnHullMore_spec_Hull, lk_laws_FnHullMore_laws_equalPoints, sp_spec_DrawHull, sp_impl_Hull, sp_spec_Hull, sp_laws_equalPoints, eb, ec, d1, d2, hsz, hl0, hk, e2, d3]
          exact hb
        | false =>
          have h3 : 3 ≤ (hullP l).length := by have := of_decide_eq_false d3; omega
          obtain ⟨c1, c2⟩ := hull_cvx hk h3
          obtain ⟨k, hk0⟩ : ∃ k, c.length % (l.length + 1) = k := ⟨_, rfl⟩
          have hkl : k ≤ l.length := by have := Nat.mod_lt c.length (show 0 < l.length + 1 by omega); omega
          have w1 : IntKind.i64.wrap ((l.length : Int) + 1) = ((l.length + 1 : Nat) : Int) := by rw [wr (by omega) (by omega)]; omega
          have d4 : (((l.length + 1 : Nat) : Int) == 0) = false := by simp; omega
          have t1 : (c.length : Int).tmod ((l.length + 1 : Nat) : Int) = (k : Int) := by rw [Int.tmod_eq_emod_of_nonneg (by omega), ← hk0]; simp
          have o1 : okPs (l.take k) = true := okPs_sub hk (fun x hx => List.mem_of_mem_take hx) (by simp; omega)
          have hin : ∀ q ∈ hullP (l.take k), q ∈ l := fun q hq => List.mem_of_mem_take (mem_hullP_sub hq)
          have hlo : ∀ i, i < (hullP (l.take k)).length → 0 ≤ lcB (hullP l) (pAt (hullP (l.take k)) i) := fun i hi => hull_has h3 (hin _ (pA_mem hi))
          have hle : areaP (hullP (l.take k)) ≤ areaP (hullP l) := by
            have := area_sub (S := l.take k) (T := l) (fun a ha => List.mem_of_mem_take ha)
            rw [areaP, areaP, area_sum, area_sum]; exact this
          have hgl := hullP_len (l.take k)
          rw [List.length_take] at hgl
          have ha1 : hareaP (l.take k) = areaP (hullP (l.take k)) := by unfold hareaP; first | rw [if_pos o1] | rw [o1]; rfl
          have ha2 : hareaP l = areaP (hullP l) := by unfold hareaP; first | rw [if_pos hk] | rw [hk]; rfl
          have ha3 : dareaP (hullP l) = areaP (hullP l) := by rw [dareaP, c1, cond_true]
          have d5 : decide (areaP (hullP (l.take k)) ≤ areaP (hullP l)) = true := by simpa using hle
          obtain ⟨g, hg⟩ : ∃ g, l.take k = g := ⟨_, rfl⟩
          rw [hg] at o1 hlo hgl ha1 d5
          have e3 := len_encPs (hullP g)
          simp only [V_seq, V_skip, V_block, V_region, V_cond, brW_false, W_nil, W_cons, effOp2, KN_seq, asB, effOp, effPure, effPick, effCall, giveUp, hasAll, pureV, pickV, binV, sliceV, lenV, ofC, strip, lkT, lkH, ISt.app, opI, gO, gB, allB, gval, wrapG, dstOK, setD, lendV, lendP, lent, lentP, idsV, idsL, lkHS, flat, clean, callArgs, callFn, allLent, enumT, Op.operands, Call.operands, List.append_toArray, Array.append_empty, Option.toArray_none, Option.toArray_some, reduceIte, reduceCtorEq, cond_true, cond_false, Bool.or_false, Bool.not_true, Nat.reduceLT, Nat.reduceEqDiff, Nat.zero_add, ne_eq, not_false_eq_true, beq_self_eq_true, true_and, and_true, and_self, implies_true, forall_const, List.map_cons, List.map_nil, List.nil_append, List.cons_append, List.append_nil, Option.map_some, Option.map_none, Option.bind_some, List.getElem?_cons_zero, List.getElem?_cons_succ, ex_clo, or_true, or_self, Bool.false_eq_true, tab22, tab30, tab67, hN, Int.toNat_natCast, isPs_enc, toPs_enc, isBy_enc, toBy_enc, lk_laws_FnHullMore_spec_DrawHull, lk_laws_FnHullMore_impl_Hull, lk_laws_FnHullMore_spec_Hull, lk_laws_FnHullMore_laws_equalPoints, sp_spec_DrawHull, sp_impl_Hull, sp_spec_Hull, sp_laws_equalPoints, eb, ec, d1, d2, hsz, hl0, hk, e1, e2, d3, w1, t1, encPs_take, hg, o1]
          refine ⟨hb, ?_⟩
          repeat refine And.intro (by first | omega | (simp; done) | (simp; omega)) ?_
          obtain ⟨H, hH⟩ : ∃ H, hullP l = H := ⟨_, rfl⟩
          obtain ⟨G, hG⟩ : ∃ G, hullP g = G := ⟨_, rfl⟩
          rw [hH] at hlo
          rw [hG] at hlo e3 hgl
          simp only [hH, hG]
          refine V_loop (α := Nat) ⟨tabOK, mixed, gok_laws_FnHullMore, hok_laws_FnHullMore⟩ (by kernel_rfl) (fun i => i ≤ G.length) (fun i => ⟨[(9, .num .i64 i), (8, .sl 2 (encPs G)), (7, .sl 2 (encPs g)), (6, .sl 2 (encPs H)), (5, .sl 2 (encPs l))], []⟩) (fun i => G.length - i) 0 id (Nat.zero_le _) (by simp [SLe, SLe0, convTm, convHp, conv, conv0, lkT, lkH, clean]) ?_
          intro i hi
          simp only [V_seq, V_region, V_cond, W_nil, W_cons, effOp2, KN_seq, asB, effOp, effPure, pureV, binV, lenV, strip, lkT, ISt.app, opI, gO, gB, allB, gval, wrapG, dstOK, setD, Op.operands, Call.operands, List.append_toArray, reduceIte, reduceCtorEq, Nat.reduceLT, Nat.reduceEqDiff, ne_eq, not_false_eq_true, true_and, and_self, implies_true, List.nil_append, List.cons_append, List.append_nil, tab67, hN, e3]
          refine brW_some (fun h => ?_) (fun h => ?_)
          · have hi' : i < G.length := by simpa using h
            have g0 := getD_encPs hi'
            have hw := wr_succ hi' (by rw [maxLen_eq]; omega)
            have d6 : decide (lcB H (pAt G i) < 0) = false := by simp only [decide_eq_false_iff_not]; have := hlo i hi'; omega
            generalize pAt G i = q at *
            simp only [V_seq, V_skip, V_block, V_region, V_cond, brW_false, W_nil, W_cons, effOp2, KN_seq, KN_block, KN_back, asB, effOp, effPure, effCall, giveUp, hasAll, pureV, binV, partV, eltV, loadV, iaddrV, ofC, strip, lkT, lkH, ISt.app, opI, gO, gB, allB, gval, wrapG, dstOK, setD, lendV, lendP, lent, lentP, idsV, idsL, lkHS, flat, clean, callArgs, callFn, allLent, Op.operands, reduceIte, reduceCtorEq, cond_true, Bool.or_false, Bool.not_true, Nat.reduceAdd, Nat.reduceLT, Nat.reduceLeDiff, Nat.reduceEqDiff, Nat.zero_add, ne_eq, not_false_eq_true, true_and, and_true, and_false, and_self, implies_true, forall_const, List.map_cons, List.map_nil, List.nil_append, List.cons_append, List.append_nil, List.getD_cons_zero, List.length_cons, List.length_nil, List.take_succ_cons, List.take_nil, List.drop_zero, ex_clo, or_self, tab30, tab67, hN, pe, Int.toNat_natCast, isPs_enc, toPs_enc, lk_laws_FnHullMore_impl_LocateConvex, sp_impl_LocateConvex, e3, g0, hw, d6]
            repeat refine And.intro (by first | omega | (simp; done) | (simp; omega)) ?_
            exact ⟨i + 1, id, by simp only []; omega, by simp only []; omega, by simp [SLe, SLe0, convTm, convHp, conv, conv0, lkT, lkH, clean]⟩
          · rw [hH] at ha2 ha3 d5
            rw [hG] at ha1 d5
            simp only [V_seq, V_ret, V_exit, V_region, W_nil, W_cons, effOp2, KN_seq, KXr_nil, KXe_nil, KXe_seq, KXe_block, KXe_back, QE, effOp, effPure, effPick, effCall, giveUp, hasAll, pureV, pickV, binV, ofC, strip, lkT, lkH, ISt.app, opI, gO, gB, allB, gval, wrapG, dstOK, setD, lendV, lendP, lent, lentP, idsV, idsL, lkHS, flat, clean, callArgs, callFn, allLent, Gives, Ideal.Fin, conv, conv0, Op.operands, reduceIte, cond_true, Bool.or_false, Bool.not_true, Nat.reduceLT, Nat.reduceEqDiff, beq_self_eq_true, and_self, implies_true, List.map_cons, List.map_nil, List.nil_append, List.cons_append, List.append_nil, Option.bind_some, List.getElem?_cons_zero, List.getElem?_cons_succ, ex_clo, or_self, Bool.true_eq_false, hN, isPs_enc, toPs_enc, lk_laws_FnHullMore_impl_HullArea, lk_laws_FnHullMore_impl_DoubleArea, sp_impl_HullArea, sp_impl_DoubleArea, ha1, ha2, ha3, d5]
def sp_laws_FnHullMore : PSpec := ⟨fun xs => match xs with | [.sl 1 bes, .sl 1 ces] => isBy bes ∧ isBy ces ∧ ((fun (b : List Int) (c : List Int) => ∀ x ∈ b, 0 ≤ x ∧ x < 256) (toIs bes) (toIs ces)) ∧ ((fun (b : List Int) (c : List Int) => ∀ x ∈ c, 0 ≤ x ∧ x < 256) (toIs bes) (toIs ces)) | _ => False, fun xs => match xs with | [.sl _ bes, .sl _ ces] => (fun (b : List Int) (c : List Int) => .bool true) (toIs bes) (toIs ces) | _ => .junk, false⟩
theorem gk_laws_FnHullMore : ∀ args, sp_laws_FnHullMore.pre args → ICall Try.prog 14 args (sp_laws_FnHullMore.val args) := by
  intro args h
  unfold sp_laws_FnHullMore at h ⊢; simp only at h ⊢; split at h
  · obtain ⟨h0, h1, h2, h3⟩ := h
    obtain ⟨l0, rfl⟩ := isBy_ex h0
    obtain ⟨l1, rfl⟩ := isBy_ex h1
    simp only [toBy_enc] at *
    exact c_laws_FnHullMore _ _ h2 h3
  · exact h.elim
theorem en_laws_FnHullMore : Enters Try.prog 14 := enters_of Try.func14 (by kernel_rfl) rfl

end Go.Proofs.Ytjlcbomigbolcaa
