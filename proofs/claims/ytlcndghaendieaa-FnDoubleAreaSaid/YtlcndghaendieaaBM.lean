/- Contracts: points near, moved. -/
import Derived.Test.YtlcndghaendieaaBJ
import Derived.Test.YtlcndghaendieaaPl11
set_option linter.unusedVariables false
set_option linter.unusedSimpArgs false
namespace Go.Proofs.Ytlcndghaendieaa
open Go Go.Ideal Go.Pl Go.Sort

theorem okPs_subM {l m : List Pt} (h : okPs l = true) (hs : ∀ x ∈ m, x ∈ l) (hn : m.length ≤ l.length) : okPs m = true := by
  simp only [okPs, Bool.and_eq_true, List.all_eq_true, decide_eq_true_eq] at h ⊢
  exact ⟨fun x hx => h.1 x (hs x hx), by omega⟩

/-- Is a point not too far out? -/
def nearB (p : Pt) : Bool := !(decide (900 < p.1)) && !(decide (p.1 < -900)) && !(decide (900 < p.2)) && !(decide (p.2 < -900))
theorem near_step {l : List Pt} {i : Nat} (hi : i < l.length) (h : ∀ j, j < i → nearB (pAt l j) = true) (h2 : nearB (pAt l i) = true) : ∀ j, j < i + 1 → nearB (pAt l j) = true := fun j hj => by
  rcases Nat.lt_or_ge j i with c | c
  · exact h j c
  · rw [show j = i by omega]; exact h2
theorem near_all {l : List Pt} (h : ∀ j, j < l.length → nearB (pAt l j) = true) : l.all nearB = true := by
  rw [List.all_eq_true]
  intro x hx
  obtain ⟨i, hi, rfl⟩ := List.getElem_of_mem hx
  have := h i hi
  simpa [pAt, List.getD, hi] using this
theorem near_no {l : List Pt} {i : Nat} (hi : i < l.length) (h : nearB (pAt l i) = false) : l.all nearB = false := by
  cases hc : l.all nearB with
  | false => rfl
  | true =>
    rw [List.all_eq_true] at hc
    have := hc (pAt l i) (by rw [pAt, List.getD, List.getElem?_eq_getElem hi]; exact List.getElem_mem hi)
    rw [h] at this; cases this
def g_laws_near : List (Nat × PSpec) := []
theorem gok_laws_near : GOK Try.prog g_laws_near := gok0
def h_laws_near : List (Nat × HSpec) := []
theorem hok_laws_near : HOK Try.prog h_laws_near := hok0
theorem c_laws_near (l : List Pt)  : ICall Try.prog 17 [.sl 2 (encPs l)] (.bool (l.all nearB)) := by
  refine icall_V (G := g_laws_near) (H := []) [] tabOK mixed gok_laws_near hok_laws_near Try.func17 rfl Try.ntmps17 Try.results17 rfl (by kernel_rfl) fun F hN hlen => ?_
  have hl := hlen 0 2 _ rfl
  have el := len_encPs l
  rw [el] at hl
  simp only [V_seq, V_block, V_region, W_nil, W_cons, effOp2, KN_seq, effOp, effPure, pureV, ofC, strip, ISt.app, opI, gO, gB, allB, gval, wrapG, dstOK, setD, enumT, Op.operands, Nat.reduceLT, true_and, and_self, implies_true, List.nil_append, List.cons_append, List.append_nil, hN]
  refine V_loop (α := Nat) ⟨tabOK, mixed, gok_laws_near, hok_laws_near⟩ (by kernel_rfl) (fun i => i ≤ l.length ∧ ∀ j, j < i → nearB (pAt l j) = true) (fun i => ⟨[(3, .num .i64 i), (0, .sl 2 (encPs l))], []⟩) (fun i => l.length - i) 0 id ⟨Nat.zero_le _, fun j h => absurd h (Nat.not_lt_zero j)⟩ (by simp [SLe, SLe0, convTm, convHp, conv, conv0, lkT, lkH, clean]) ?_
  rintro i ⟨hi, hj⟩
  simp only [V_seq, V_region, V_cond, W_nil, W_cons, effOp2, KN_seq, asB, effOp, effPure, pureV, binV, lenV, strip, lkT, ISt.app, opI, gO, gB, allB, gval, wrapG, dstOK, setD, Op.operands, Call.operands, List.append_toArray, reduceIte, reduceCtorEq, Nat.reduceLT, Nat.reduceEqDiff, ne_eq, not_false_eq_true, true_and, and_self, implies_true, List.nil_append, List.cons_append, List.append_nil, tab23, hN, el]
  refine brW_some (fun h => ?_) (fun h => ?_)
  · have hi' : i < l.length := by simpa using h
    have g0 := getD_encPs hi'
    have hw := wr_succ hi' hl
    have hst := near_step hi' hj
    have hno := near_no hi'
    have hB : nearB (pAt l i) = (!(decide (900 < (pAt l i).1)) && !(decide ((pAt l i).1 < -900)) && !(decide (900 < (pAt l i).2)) && !(decide ((pAt l i).2 < -900))) := rfl
    cases d1 : decide (900 < (pAt l i).1) with
    | true =>
      have hn := hno (by rw [hB, d1]; rfl)
      simp only [V_seq, V_skip, V_ret, V_block, V_region, V_cond, brW_true, W_nil, W_cons, effOp2, KN_seq, KXr_nil, KXr_seq, KXr_block, KXr_back, QE, asB, effOp, effPure, effPick, pureV, pickV, binV, partV, eltV, loadV, faddrV, iaddrV, ofC, strip, lkT, lkH, ISt.app, opI, gO, gB, allB, gval, wrapG, dstOK, setD, clean, Gives, Ideal.Fin, conv, conv0, Op.operands, reduceIte, reduceCtorEq, cond_true, Nat.reduceAdd, Nat.reduceLT, Nat.reduceLeDiff, Nat.reduceEqDiff, Nat.add_zero, Nat.zero_add, ne_eq, not_false_eq_true, true_and, and_true, false_and, and_false, and_self, false_implies, implies_true, forall_const, List.nil_append, List.cons_append, List.append_nil, Option.bind_some, List.getElem?_cons_zero, List.getElem?_cons_succ, List.getD_cons_zero, List.getD_cons_succ, List.length_cons, List.length_nil, List.take_succ_cons, List.take_zero, List.take_nil, List.drop_succ_cons, List.drop_zero, btf, Bool.true_eq_false, Bool.false_eq_true, tab3, tab23, tab28, hN, Int.toNat_natCast, el, g0, d1, hn]
      try omega
    | false =>
      cases d2 : decide ((pAt l i).1 < -900) with
      | true =>
        have hn := hno (by rw [hB, d1, d2]; rfl)
        simp only [V_seq, V_skip, V_ret, V_block, V_region, V_cond, brW_true, W_nil, W_cons, effOp2, KN_seq, KXr_nil, KXr_seq, KXr_block, KXr_back, QE, asB, effOp, effPure, effPick, pureV, pickV, binV, partV, eltV, loadV, faddrV, iaddrV, ofC, strip, lkT, lkH, ISt.app, opI, gO, gB, allB, gval, wrapG, dstOK, setD, clean, Gives, Ideal.Fin, conv, conv0, Op.operands, reduceIte, reduceCtorEq, cond_true, cond_false, Nat.reduceAdd, Nat.reduceLT, Nat.reduceLeDiff, Nat.reduceEqDiff, Nat.add_zero, Nat.zero_add, ne_eq, not_false_eq_true, beq_self_eq_true, true_and, and_true, false_and, and_false, and_self, false_implies, implies_true, forall_const, List.nil_append, List.cons_append, List.append_nil, Option.bind_some, List.getElem?_cons_zero, List.getElem?_cons_succ, List.getD_cons_zero, List.getD_cons_succ, List.length_cons, List.length_nil, List.take_succ_cons, List.take_zero, List.take_nil, List.drop_succ_cons, List.drop_zero, btf, Bool.true_eq_false, Bool.false_eq_true, tab3, tab23, tab28, hN, Int.toNat_natCast, el, g0, d1, d2, hn]
        try omega
      | false =>
        cases d3 : decide (900 < (pAt l i).2) with
        | true =>
          have hn := hno (by rw [hB, d1, d2, d3]; rfl)
          simp only [V_seq, V_skip, V_ret, V_block, V_region, V_cond, brW_true, W_nil, W_cons, effOp2, KN_seq, KXr_nil, KXr_seq, KXr_block, KXr_back, QE, asB, effOp, effPure, effPick, pureV, pickV, binV, partV, eltV, loadV, faddrV, iaddrV, ofC, strip, lkT, lkH, ISt.app, opI, gO, gB, allB, gval, wrapG, dstOK, setD, clean, Gives, Ideal.Fin, conv, conv0, Op.operands, reduceIte, reduceCtorEq, cond_true, cond_false, Nat.reduceAdd, Nat.reduceLT, Nat.reduceLeDiff, Nat.reduceEqDiff, Nat.add_zero, Nat.zero_add, ne_eq, not_false_eq_true, beq_self_eq_true, true_and, and_true, false_and, and_false, and_self, false_implies, implies_true, forall_const, List.nil_append, List.cons_append, List.append_nil, Option.bind_some, List.getElem?_cons_zero, List.getElem?_cons_succ, List.getD_cons_zero, List.getD_cons_succ, List.length_cons, List.length_nil, List.take_succ_cons, List.take_zero, List.take_nil, List.drop_succ_cons, List.drop_zero, btf, Bool.true_eq_false, Bool.false_eq_true, tab3, tab23, tab28, hN, Int.toNat_natCast, el, g0, d1, d2, d3, hn]
          try omega
        | false =>
          cases d4 : decide ((pAt l i).2 < -900) with
          | true =>
            have hn := hno (by rw [hB, d1, d2, d3, d4]; rfl)
            simp only [V_seq, V_skip, V_ret, V_block, V_region, V_cond, brW_true, W_nil, W_cons, effOp2, KN_seq, KXr_nil, KXr_seq, KXr_block, KXr_back, QE, asB, effOp, effPure, effPick, pureV, pickV, binV, partV, eltV, loadV, faddrV, iaddrV, ofC, strip, lkT, lkH, ISt.app, opI, gO, gB, allB, gval, wrapG, dstOK, setD, clean, Gives, Ideal.Fin, conv, conv0, Op.operands, reduceIte, reduceCtorEq, cond_false, Nat.reduceAdd, Nat.reduceLT, Nat.reduceLeDiff, Nat.reduceEqDiff, Nat.add_zero, Nat.zero_add, ne_eq, not_false_eq_true, beq_self_eq_true, true_and, and_true, and_false, and_self, implies_true, forall_const, List.nil_append, List.cons_append, List.append_nil, Option.bind_some, List.getElem?_cons_zero, List.getElem?_cons_succ, List.getD_cons_zero, List.getD_cons_succ, List.length_cons, List.length_nil, List.take_succ_cons, List.take_zero, List.take_nil, List.drop_succ_cons, List.drop_zero, Bool.false_eq_true, tab3, tab23, tab28, hN, Int.toNat_natCast, el, g0, d1, d2, d3, d4, hn]
            try omega
          | false =>
            have hn := hst (by rw [hB, d1, d2, d3, d4]; rfl)
            simp only [V_seq, V_skip, V_block, V_region, V_cond, brW_false, W_nil, W_cons, effOp2, KN_seq, KN_block, KN_back, asB, effOp, effPure, effPick, pureV, pickV, binV, partV, eltV, loadV, faddrV, iaddrV, ofC, strip, lkT, ISt.app, opI, gO, gB, allB, gval, wrapG, dstOK, setD, Op.operands, reduceIte, reduceCtorEq, cond_false, Nat.reduceAdd, Nat.reduceLT, Nat.reduceLeDiff, Nat.reduceEqDiff, Nat.add_zero, Nat.zero_add, ne_eq, not_false_eq_true, beq_self_eq_true, true_and, and_true, and_false, and_self, implies_true, forall_const, List.nil_append, List.cons_append, List.append_nil, Option.bind_some, List.getElem?_cons_zero, List.getElem?_cons_succ, List.getD_cons_zero, List.getD_cons_succ, List.length_cons, List.length_nil, List.take_succ_cons, List.take_zero, List.take_nil, List.drop_succ_cons, List.drop_zero, Bool.false_eq_true, tab3, tab23, tab28, hN, Int.toNat_natCast, el, g0, hw, d1, d2, d3, d4]
            repeat refine And.intro (by first | omega | (simp; done) | (simp; omega)) ?_
            exact ⟨i + 1, id, ⟨by omega, hn⟩, by simp only []; omega, by simp [SLe, SLe0, convTm, convHp, conv, conv0, lkT, lkH, clean]⟩
  · have hie : i = l.length := by simp at h; omega
    subst hie
    have hn := near_all hj
    simp only [V_seq, V_ret, V_exit, V_region, W_nil, W_cons, effOp2, KN_seq, KXr_nil, KXe_nil, KXe_seq, KXe_block, KXe_back, QE, effOp, effPure, pureV, ofC, strip, lkT, lkH, ISt.app, opI, gO, gB, allB, gval, wrapG, dstOK, setD, clean, Gives, Ideal.Fin, conv, conv0, Op.operands, reduceIte, reduceCtorEq, Nat.reduceLT, Nat.reduceEqDiff, and_self, implies_true, List.nil_append, List.cons_append, List.append_nil, hN, hn]
def sp_laws_near : PSpec := ⟨fun xs => match xs with | [.sl 2 les] => isPs les | _ => False, fun xs => match xs with | [.sl _ les] => (fun (l : List Pt) => .bool (l.all nearB)) (toPs les) | _ => .junk, false⟩
theorem gk_laws_near : ∀ args, sp_laws_near.pre args → ICall Try.prog 17 args (sp_laws_near.val args) := by
  intro args h
  unfold sp_laws_near at h ⊢; simp only at h ⊢; split at h
  · have h0 := h
    obtain ⟨l0, rfl⟩ := isP_ex h0
    simp only [toPs_enc] at *
    exact c_laws_near _ 
  · exact h.elim
theorem en_laws_near : Enters Try.prog 17 := enters_of Try.func17 (by kernel_rfl) rfl


def g_laws_moved : List (Nat × PSpec) := []
theorem gok_laws_moved : GOK Try.prog g_laws_moved := gok0
def h_laws_moved : List (Nat × HSpec) := []
theorem hok_laws_moved : HOK Try.prog h_laws_moved := hok0
theorem c_laws_moved (l : List Pt) (dx : Int) (dy : Int) (hm : SmL l) (hx : sm1 dx) (hy : sm1 dy) (hsz : l.length ≤ 1000000) : ICall Try.prog 18 [.sl 2 (encPs l), .num .i64 dx, .num .i64 dy] (.sl 2 (encPs (l.map (mv dx dy)))) := by
  refine icall_V (G := g_laws_moved) (H := []) [(5, [(0, 16), (1, 16), (2, 16), (3, 16), (4, 16), (5, 16), (6, 16), (7, 16), (8, 16), (9, 16), (10, 16), (11, 16), (12, 16), (13, 16), (14, 16), (1, 17), (2, 17), (3, 17), (4, 17), (5, 17), (6, 17), (7, 17), (8, 17), (9, 17), (10, 17), (11, 17), (12, 17), (13, 17), (14, 17), (15, 17)])] tabOK mixed gok_laws_moved hok_laws_moved Try.func18 rfl Try.ntmps18 Try.results18 rfl (by kernel_rfl) fun F hN hlen => ?_
  have el := len_encPs l
  simp only [V_seq, V_block, V_region, W_nil, W_cons, effOp2, KN_seq, effOp, effPure, effNew, effBuildSlice, effFrz, frz, tmpsOf, skipE, pureV, ofC, strip, lkT, ISt.app, opI, gO, gB, allB, gval, wrapG, dstOK, setD, mentTm, mentHp, IV.ment, partsL, eltsI, enumT, Op.operands, reduceIte, reduceCtorEq, cond_true, Bool.or_false, Nat.reduceAdd, Nat.reduceMul, Nat.reduceLT, Nat.reduceLeDiff, Nat.reduceEqDiff, Nat.zero_add, ne_eq, not_false_eq_true, true_and, and_self, implies_true, List.nil_append, List.cons_append, List.append_nil, List.length_nil, tab23, tab28, hN]
  refine V_loop (α := Nat) ⟨tabOK, mixed, gok_laws_moved, hok_laws_moved⟩ (by kernel_rfl) (fun i => i ≤ l.length) (fun i => ⟨[(8, .num .i64 i), (7, .ref 9 0 i true), (0, .sl 2 (encPs l)), (1, .num .i64 dx), (2, .num .i64 dy)], [(9, some (.arr 2 28 (encPs ((l.take i).map (mv dx dy)))))]⟩) (fun i => l.length - i) 0 id (Nat.zero_le _) (by simp [SLe, SLe0, convTm, convHp, convB, conv, conv0, lkT, lkH, clean, encPs]) ?_
  intro i hi
  have ee : (encPs ((l.take i).map (mv dx dy))).length = i := by rw [len_encPs, List.length_map, List.length_take]; omega
  simp only [V_seq, V_region, V_cond, W_nil, W_cons, effOp2, KN_seq, asB, effOp, effPure, pureV, binV, lenV, strip, lkT, ISt.app, opI, gO, gB, allB, gval, wrapG, dstOK, setD, Op.operands, Call.operands, List.append_toArray, reduceIte, reduceCtorEq, Nat.reduceLT, Nat.reduceEqDiff, ne_eq, not_false_eq_true, true_and, and_self, implies_true, List.nil_append, List.cons_append, tab23, hN, el]
  refine brW_some (fun h => ?_) (fun h => ?_)
  · have hi' : i < l.length := by simpa using h
    have g0 := getD_encPs hi'
    have hw := wr_succ hi' (by rw [maxLen_eq]; omega)
    have s0 := hm.at i
    unfold Sm sm1 at s0
    unfold sm1 at hx hy
    have w1 : IntKind.i64.wrap ((pAt l i).1 + dx) = (pAt l i).1 + dx := wr (by omega) (by omega)
    have w2 : IntKind.i64.wrap ((pAt l i).2 + dy) = (pAt l i).2 + dy := wr (by omega) (by omega)
    have hst : encPs ((l.take (i + 1)).map (mv dx dy)) = (encPs ((l.take i).map (mv dx dy))).take i ++ [IV.agg [.num .i64 ((pAt l i).1 + dx), .num .i64 ((pAt l i).2 + dy)]] := by
      rw [take_succ_g (d := (0, 0)) hi', List.map_append, ← encPs_app, List.take_of_length_le (Nat.le_of_eq ee)]; rfl
    simp only [V_seq, V_skip, V_block, V_region, V_draw, drawW, WS_nil, pairsOf, W_nil, W_cons, effOp2, effOp3, WI_nil, WI_cons, KN_seq, KN_block, KN_back, dynOK, indB, farB, seeB, see, isStore, freshB, freshK, freshK1, heapy, effOp, effPure, effNew, effBuildSlice, effFrz, frz, tmpsOf, effAppend, effZeros, skipE, pureV, srcV, refId, binV, partV, eltV, loadV, faddrV, iaddrV, over, solid, buildL, IV.cells, ofC, strip, lkT, lkH, ISt.app, opI, gO, gB, allB, gval, wrapG, dstOK, setD, mentTm, mentHp, IV.ment, IV.mentL, partsL, eltsI, eltI, oneI, noId', Op.operands, Call.operands, List.append_toArray, reduceIte, reduceCtorEq, cond_true, cond_false, Bool.or_false, Bool.or_true, Bool.and_true, Bool.and_false, Bool.and_eq_true, Bool.not_false, Nat.reduceAdd, Nat.reduceMul, Nat.reduceLT, Nat.reduceLeDiff, Nat.reduceEqDiff, Nat.reduceBEq, Nat.add_zero, Nat.zero_add, ne_eq, not_false_eq_true, beq_self_eq_true, true_and, and_true, false_and, and_false, and_self, implies_true, forall_const, List.map_cons, List.map_nil, List.nil_append, List.cons_append, List.append_nil, List.all_cons, List.all_nil, Option.some.injEq, List.getD_cons_zero, List.getD_cons_succ, List.length_cons, List.length_nil, List.take_succ_cons, List.take_zero, List.take_nil, List.drop_succ_cons, List.drop_zero, List.drop_nil, tab3, tab23, tab28, hN, Int.toNat_natCast, el, g0, hw, w1, w2, ee]
    repeat refine And.intro (by first | omega | (simp; done) | (simp; omega)) ?_
    refine ⟨i + 1, fun x => if x = 9 then 33 else x, by simp only []; omega, by simp only []; omega, ?_⟩
    simp [SLe, SLe0, convTm, convHp, convB, conv, conv0, lkT, lkH, clean]
    exact ⟨take_eq_of (by simpa [List.map_take] using hst), fun x a1 a2 a3 => by omega⟩
  · have hie : i = l.length := by simp at h; omega
    subst hie
    rw [List.take_length] at ee ⊢
    simp only [V_seq, V_ret, V_exit, V_region, W_nil, W_cons, effOp2, KN_seq, KXr_nil, KXe_nil, KXe_seq, KXe_block, KXe_back, QE, effOp, effPure, pureV, strip, lkT, lkH, ISt.app, opI, gO, gB, allB, gval, wrapG, dstOK, setD, Gives, Ideal.Fin, conv, conv0, Op.operands, reduceIte, reduceCtorEq, Nat.reduceLT, Nat.reduceEqDiff, Nat.zero_add, ne_eq, true_and, and_self, implies_true, List.nil_append, List.cons_append, Option.some.injEq, List.drop_zero, hN]
    exact ⟨_, _, rfl, by omega, (List.take_of_length_le (by omega)).symm, by simp⟩
def sp_laws_moved : PSpec := ⟨fun xs => match xs with | [.sl 2 les, .num .i64 dx, .num .i64 dy] => isPs les ∧ ((fun (l : List Pt) (dx : Int) (dy : Int) => SmL l) (toPs les) dx dy) ∧ ((fun (l : List Pt) (dx : Int) (dy : Int) => sm1 dx) (toPs les) dx dy) ∧ ((fun (l : List Pt) (dx : Int) (dy : Int) => sm1 dy) (toPs les) dx dy) ∧ ((fun (l : List Pt) (dx : Int) (dy : Int) => l.length ≤ 1000000) (toPs les) dx dy) | _ => False, fun xs => match xs with | [.sl _ les, .num _ dx, .num _ dy] => (fun (l : List Pt) (dx : Int) (dy : Int) => .sl 2 (encPs (l.map (mv dx dy)))) (toPs les) dx dy | _ => .junk, false⟩
theorem gk_laws_moved : ∀ args, sp_laws_moved.pre args → ICall Try.prog 18 args (sp_laws_moved.val args) := by
  intro args h
  unfold sp_laws_moved at h ⊢; simp only at h ⊢; split at h
  · obtain ⟨h0, h1, h2, h3, h4⟩ := h
    obtain ⟨l0, rfl⟩ := isP_ex h0
    simp only [toPs_enc] at *
    exact c_laws_moved _ _ _ h1 h2 h3 h4
  · exact h.elim
theorem en_laws_moved : Enters Try.prog 18 := enters_of Try.func18 (by kernel_rfl) rfl


theorem okPs_mv {l : List Pt} (h : okPs l = true) (hn : l.all nearB = true) {dx dy : Int} (hx : -100 ≤ dx ∧ dx ≤ 100) (hy : -100 ≤ dy ∧ dy ≤ 100) : okPs (l.map (mv dx dy)) = true := by
  simp only [okPs, Bool.and_eq_true, List.all_eq_true, decide_eq_true_eq, List.length_map] at h hn ⊢
  refine ⟨fun x hxm => ?_, h.2⟩
  obtain ⟨y, hy1, rfl⟩ := List.mem_map.1 hxm
  have := hn y hy1
  simp only [nearB, Bool.and_eq_true, Bool.not_eq_true', decide_eq_false_iff_not] at this
  simp only [okP, inR, Bool.and_eq_true, decide_eq_true_eq]
  show (-1000 ≤ y.1 + dx ∧ y.1 + dx ≤ 1000) ∧ (-1000 ≤ y.2 + dy ∧ y.2 + dy ≤ 1000)
  omega
end Go.Proofs.Ytlcndghaendieaa
