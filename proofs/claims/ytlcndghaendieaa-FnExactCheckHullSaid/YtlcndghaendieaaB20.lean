/- Contracts: simple polygons. -/
import Derived.Test.YtlcndghaendieaaB17
import Derived.Test.YtlcndghaendieaaPl11
set_option linter.unusedVariables false
set_option linter.unusedSimpArgs false
set_option maxRecDepth 100000
namespace Go.Proofs.Ytlcndghaendieaa
open Go Go.Ideal Go.Pl Go.Sort

/-- Are there three to twenty different points, all in order? -/
def ringB (l : List Pt) : Bool := okPs l && inR (l.length : Int) 3 20 && (((insP l).length : Int) == (l.length : Int))
/-- Is it a simple polygon? -/
def simpB (l : List Pt) : Bool := ringB l && pairsP l
theorem ring_facts {l : List Pt} (h : ringB l = true) : okPs l = true ∧ 3 ≤ l.length ∧ l.length ≤ 20 ∧ l.Nodup := by
  simp only [ringB, inR, Bool.and_eq_true, decide_eq_true_eq, beq_iff_eq] at h
  exact ⟨h.1.1, by omega, by omega, nodup_of_ins (by omega)⟩
theorem simp_ring {l : List Pt} (h : simpB l = true) : ringB l = true := by
  simp only [simpB, Bool.and_eq_true] at h; exact h.1
theorem lt_step {P : Nat → Prop} {k : Nat} (h : ∀ c, c < k → P c) (h2 : P k) : ∀ c, c < k + 1 → P c := fun c hc => by
  rcases Nat.lt_or_ge c k with q | q
  · exact h c q
  · rw [show c = k by omega]; exact h2
theorem SmL.edge {l : List Pt} (h : SmL l) (i : Nat) : SmQ (edgeP l i) := ⟨h.at i, h.at ((i + 1) % l.length)⟩
theorem edge_ne {l : List Pt} (h : l.Nodup) (h3 : 3 ≤ l.length) {i : Nat} (hi : i < l.length) : (edgeP l i).1 ≠ (edgeP l i).2 := ed_ne h (by omega) hi
theorem edges_take {l : List Pt} {i k : Nat} (hi : i ≤ l.length) (hk : k < i) : qAt ((edgesP l).take i) k = edgeP l k := by
  rw [← edgesP_at (l := l) (i := k) (by omega)]
  simp [qAt, List.getD, hk]
/-- Is every pair before this one as it should be? -/
def rowOK (l : List Pt) (i k : Nat) : Prop := okS l.length i k (relP (edP l i) (edP l k)) = true
theorem rows_all {l : List Pt} (h : ∀ i, i < l.length → ∀ k, k < i → rowOK l i k) : pairsP l = true := pairs_iff.2 h

def g_spec_validRing : List (Nat × PSpec) := [(57, sp_spec_validPoints), (50, sp_spec_inRange), (114, sp_spec_sorted)]
theorem gok_spec_validRing : GOK Try.prog g_spec_validRing := gok_cons gk_spec_validPoints en_spec_validPoints (gok_cons gk_spec_inRange en_spec_inRange (gok_cons gk_spec_sorted en_spec_sorted (gok0)))
theorem lk_spec_validRing_spec_validPoints : lkG g_spec_validRing 57 = sp_spec_validPoints := rfl
theorem lk_spec_validRing_spec_inRange : lkG g_spec_validRing 50 = sp_spec_inRange := rfl
theorem lk_spec_validRing_spec_sorted : lkG g_spec_validRing 114 = sp_spec_sorted := rfl
def h_spec_validRing : List (Nat × HSpec) := []
theorem hok_spec_validRing : HOK Try.prog h_spec_validRing := hok0
theorem c_spec_validRing (l : List Pt)  : ICall Try.prog 84 [.sl 2 (encPs l)] (.bool (ringB l)) := by
  refine icall_V (G := g_spec_validRing) (H := []) [] tabOK mixed gok_spec_validRing hok_spec_validRing Try.func84 rfl Try.ntmps84 Try.results84 rfl (by kernel_rfl) fun F hN hlen => ?_
  have el := len_encPs l
  have hr : ringB l = (okPs l && inR (l.length : Int) 3 20 && (((insP l).length : Int) == (l.length : Int))) := rfl
  cases h1 : okPs l with
  | false =>
    rw [h1] at hr
    simp only [V_seq, V_ret, V_region, W_nil, W_cons, effOp2, KN_seq, KXr_nil, QE, effOp, effPure, effPick, effCall, giveUp, hasAll, pureV, pickV, binV, lenV, ofC, strip, lkT, lkH, ISt.app, opI, gO, gB, allB, gval, wrapG, dstOK, setD, lendV, lendP, lent, lentP, idsV, idsL, lkHS, flat, clean, callArgs, callFn, allLent, enumT, Gives, Ideal.Fin, conv, conv0, Op.operands, Call.operands, List.append_toArray, reduceIte, reduceCtorEq, cond_true, cond_false, Bool.or_false, Bool.or_true, Bool.false_and, Bool.not_true, Bool.not_false, Nat.reduceLT, Nat.reduceEqDiff, ne_eq, not_false_eq_true, true_and, and_true, false_and, and_false, and_self, false_implies, implies_true, List.map_cons, List.map_nil, List.nil_append, List.cons_append, List.append_nil, Option.bind_some, List.getElem?_cons_zero, List.getElem?_cons_succ, ex_clo, bft, or_true, or_self, Bool.false_eq_true, tab23, hN, isPs_enc, toPs_enc, lk_spec_validRing_spec_validPoints, lk_spec_validRing_spec_inRange, lk_spec_validRing_spec_sorted, sp_spec_validPoints, sp_spec_inRange, sp_spec_sorted, el, h1, hr]
  | true =>
    have hn := okPs_len h1
    have hz : l.length ≤ 1000 := by omega
    rw [h1] at hr
    cases h2 : inR (l.length : Int) 3 20 with
    | false =>
      rw [h2] at hr
      simp only [V_seq, V_ret, V_region, W_nil, W_cons, effOp2, KN_seq, KXr_nil, QE, effOp, effPure, effPick, effCall, giveUp, hasAll, pureV, pickV, binV, lenV, ofC, strip, lkT, lkH, ISt.app, opI, gO, gB, allB, gval, wrapG, dstOK, setD, lendV, lendP, lent, lentP, idsV, idsL, lkHS, flat, clean, callArgs, callFn, allLent, enumT, Gives, Ideal.Fin, conv, conv0, Op.operands, Call.operands, List.append_toArray, reduceIte, reduceCtorEq, cond_true, cond_false, Bool.or_false, Bool.or_true, Bool.and_false, Bool.false_and, Bool.not_true, Bool.not_false, Nat.reduceLT, Nat.reduceEqDiff, ne_eq, not_false_eq_true, beq_self_eq_true, true_and, and_true, false_and, and_false, and_self, false_implies, implies_true, List.map_cons, List.map_nil, List.nil_append, List.cons_append, List.append_nil, Option.bind_some, List.getElem?_cons_zero, List.getElem?_cons_succ, ex_clo, bft, or_true, or_self, Bool.true_eq_false, Bool.false_eq_true, tab23, hN, isPs_enc, toPs_enc, lk_spec_validRing_spec_validPoints, lk_spec_validRing_spec_inRange, lk_spec_validRing_spec_sorted, sp_spec_validPoints, sp_spec_inRange, sp_spec_sorted, el, h1, h2, hr]
    | true =>
      have e1 := len_encPs (insP l)
      rw [h2] at hr
      simp only [V_seq, V_ret, V_region, W_nil, W_cons, effOp2, KN_seq, KXr_nil, QE, effOp, effPure, effPick, effCall, giveUp, hasAll, pureV, pickV, binV, lenV, ofC, strip, lkT, lkH, ISt.app, opI, gO, gB, allB, gval, wrapG, dstOK, setD, lendV, lendP, lent, lentP, idsV, idsL, lkHS, flat, clean, callArgs, callFn, allLent, enumT, Gives, Ideal.Fin, conv, conv0, Op.operands, Call.operands, List.append_toArray, reduceIte, reduceCtorEq, cond_true, cond_false, Bool.or_false, Bool.and_true, Bool.true_and, Bool.not_true, Nat.reduceLT, Nat.reduceEqDiff, ne_eq, not_false_eq_true, beq_self_eq_true, and_self, implies_true, List.map_cons, List.map_nil, List.nil_append, List.cons_append, List.append_nil, Option.bind_some, List.getElem?_cons_zero, List.getElem?_cons_succ, ex_clo, or_true, or_self, Bool.true_eq_false, Bool.false_eq_true, tab23, hN, isPs_enc, toPs_enc, lk_spec_validRing_spec_validPoints, lk_spec_validRing_spec_inRange, lk_spec_validRing_spec_sorted, sp_spec_validPoints, sp_spec_inRange, sp_spec_sorted, el, h1, h2, hz, e1, hr]
def sp_spec_validRing : PSpec := ⟨fun xs => match xs with | [.sl 2 les] => isPs les | _ => False, fun xs => match xs with | [.sl _ les] => (fun (l : List Pt) => .bool (ringB l)) (toPs les) | _ => .junk, false⟩
theorem gk_spec_validRing : ∀ args, sp_spec_validRing.pre args → ICall Try.prog 84 args (sp_spec_validRing.val args) := by
  intro args h
  unfold sp_spec_validRing at h ⊢; simp only at h ⊢; split at h
  · have h0 := h
    obtain ⟨l0, rfl⟩ := isP_ex h0
    simp only [toPs_enc] at *
    exact c_spec_validRing _ 
  · exact h.elim
theorem en_spec_validRing : Enters Try.prog 84 := enters_of Try.func84 (by kernel_rfl) rfl


def g_spec_isSimple : List (Nat × PSpec) := [(84, sp_spec_validRing), (86, sp_spec_edgeOf), (85, sp_spec_relation)]
theorem gok_spec_isSimple : GOK Try.prog g_spec_isSimple := gok_cons gk_spec_validRing en_spec_validRing (gok_cons gk_spec_edgeOf en_spec_edgeOf (gok_cons gk_spec_relation en_spec_relation (gok0)))
theorem lk_spec_isSimple_spec_validRing : lkG g_spec_isSimple 84 = sp_spec_validRing := rfl
theorem lk_spec_isSimple_spec_edgeOf : lkG g_spec_isSimple 86 = sp_spec_edgeOf := rfl
theorem lk_spec_isSimple_spec_relation : lkG g_spec_isSimple 85 = sp_spec_relation := rfl
def h_spec_isSimple : List (Nat × HSpec) := []
theorem hok_spec_isSimple : HOK Try.prog h_spec_isSimple := hok0
theorem c_spec_isSimple (l : List Pt)  : ICall Try.prog 37 [.sl 2 (encPs l)] (.bool (simpB l)) := by
  refine icall_V (G := g_spec_isSimple) (H := []) [] tabOK mixed gok_spec_isSimple hok_spec_isSimple Try.func37 rfl Try.ntmps37 Try.results37 rfl (by kernel_rfl) fun F hN hlen => ?_
  have el := len_encPs l
  have hr : simpB l = (ringB l && pairsP l) := rfl
  cases h1 : ringB l with
  | false =>
    rw [h1] at hr
    simp only [V_seq, V_ret, V_region, V_cond, brW_true, W_nil, W_cons, effOp2, KN_seq, KXr_nil, KXr_seq, QE, asB, effOp, effPure, effCall, giveUp, hasAll, pureV, ofC, strip, lkT, lkH, ISt.app, opI, gO, gB, allB, gval, wrapG, dstOK, setD, lendV, lendP, lent, lentP, idsV, idsL, lkHS, flat, clean, callArgs, callFn, allLent, enumT, Gives, Ideal.Fin, conv, conv0, Op.operands, reduceIte, reduceCtorEq, cond_true, Bool.or_false, Bool.false_and, Bool.not_true, Bool.not_false, Nat.reduceLT, Nat.reduceEqDiff, and_self, implies_true, List.map_cons, List.map_nil, List.nil_append, List.cons_append, List.append_nil, ex_clo, or_self, hN, isPs_enc, toPs_enc, lk_spec_isSimple_spec_validRing, sp_spec_validRing, h1, hr]
  | true =>
    rw [h1, Bool.true_and] at hr
    obtain ⟨hk, h3, h20, hnd⟩ := ring_facts h1
    have hm := okPs_sm hk
    have hz : l.length ≤ 1000000 := by omega
    simp only [V_seq, V_skip, V_block, V_region, V_cond, brW_false, W_nil, W_cons, effOp2, KN_seq, asB, effOp, effPure, effCall, giveUp, hasAll, pureV, lenV, ofC, strip, lkT, lkH, ISt.app, opI, gO, gB, allB, gval, wrapG, dstOK, setD, lendV, lendP, lent, lentP, idsV, idsL, lkHS, flat, clean, callArgs, callFn, allLent, enumT, Op.operands, Call.operands, List.append_toArray, reduceIte, reduceCtorEq, cond_true, Bool.or_false, Bool.not_true, Nat.reduceLT, Nat.reduceEqDiff, ne_eq, not_false_eq_true, true_and, and_self, implies_true, List.map_cons, List.map_nil, List.nil_append, List.cons_append, List.append_nil, ex_clo, or_self, tab23, hN, isPs_enc, toPs_enc, lk_spec_isSimple_spec_validRing, sp_spec_validRing, el, h1, hr]
    refine V_loop (α := Nat) ⟨tabOK, mixed, gok_spec_isSimple, hok_spec_isSimple⟩ (by kernel_rfl) (fun i => i ≤ l.length ∧ ∀ a, a < i → ∀ c, c < a → rowOK l a c) (fun i => ⟨[(4, .num .i64 i), (3, .num .i64 l.length), (0, .sl 2 (encPs l))], []⟩) (fun i => l.length - i) 0 id ⟨Nat.zero_le _, fun a h => absurd h (Nat.not_lt_zero a)⟩ (by simp [SLe, SLe0, convTm, convHp, conv, conv0, lkT, lkH, clean]) ?_
    rintro i ⟨hi, hI⟩
    simp only [V_seq, V_region, V_cond, W_nil, W_cons, effOp2, KN_seq, asB, effOp, effPure, pureV, binV, strip, lkT, ISt.app, opI, gO, gB, allB, gval, wrapG, dstOK, setD, Op.operands, reduceIte, reduceCtorEq, Nat.reduceLT, Nat.reduceEqDiff, true_and, and_self, implies_true, List.nil_append, List.cons_append, List.append_nil, hN]
    refine brW_some (fun h => ?_) (fun h => ?_)
    · have hi' : i < l.length := by simpa using h
      have hw := wr_succ hi' (by rw [maxLen_eq]; omega)
      simp only [V_seq, V_skip, V_block, V_region, W_nil, W_cons, effOp2, KN_seq, effOp, effPure, pureV, ofC, strip, ISt.app, opI, gO, gB, allB, gval, wrapG, dstOK, setD, Op.operands, Nat.reduceLT, true_and, and_self, implies_true, List.nil_append, List.cons_append, List.append_nil, hN]
      refine V_loop (α := Nat) ⟨tabOK, mixed, gok_spec_isSimple, hok_spec_isSimple⟩ (by kernel_rfl) (fun k => k ≤ i ∧ ∀ c, c < k → rowOK l i c) (fun k => ⟨[(5, .num .i64 k), (4, .num .i64 i), (3, .num .i64 l.length), (0, .sl 2 (encPs l))], []⟩) (fun k => i - k) 0 id ⟨Nat.zero_le _, fun a h => absurd h (Nat.not_lt_zero a)⟩ (by simp [SLe, SLe0, convTm, convHp, conv, conv0, lkT, lkH, clean]) ?_
      rintro k ⟨hki, hK⟩
      simp only [V_seq, V_region, V_cond, W_nil, W_cons, effOp2, KN_seq, asB, effOp, effPure, pureV, binV, strip, lkT, ISt.app, opI, gO, gB, allB, gval, wrapG, dstOK, setD, Op.operands, reduceIte, reduceCtorEq, Nat.reduceLT, Nat.reduceEqDiff, true_and, and_self, implies_true, List.nil_append, List.cons_append, List.append_nil, hN]
      refine brW_some (fun h => ?_) (fun h => ?_)
      · have hk' : k < i := by simpa using h
        have hkl : k < l.length := by omega
        have hw2 := wr_succ hk' (by rw [maxLen_eq]; omega)
        have q1 := hm.edge i
        have q2 := hm.edge k
        have t1 : ((i + 1 : Nat) : Int).tmod (l.length : Int) = (((i + 1) % l.length : Nat) : Int) := by rw [Int.tmod_eq_emod_of_nonneg (by omega)]; simp
        have b1 : (((k + 1 : Nat) : Int) == (i : Int)) = decide (k + 1 = i) := by rw [Bool.eq_iff_iff]; simp; omega
        have b2 : ((((i + 1) % l.length : Nat) : Int) == (k : Int)) = decide ((i + 1) % l.length = k) := by rw [Bool.eq_iff_iff, beq_iff_eq, decide_eq_true_eq]; exact Int.ofNat_inj
        obtain ⟨r, hr0⟩ : ∃ r, relP (edgeP l i) (edgeP l k) = r := ⟨_, rfl⟩
        have hok : okS l.length i k (relP (edP l i) (edP l k)) = bif (decide (k + 1 = i) || decide ((i + 1) % l.length = k)) then r != 3 else r == 0 := by rw [← hr0]; rfl
        have j1 : (i : Int) < (l.length : Int) := by omega
        have j2 : (k : Int) < (l.length : Int) := by omega
        have j3 : (0 : Int) ≤ (i : Int) := by omega
        have j4 : (0 : Int) ≤ (k : Int) := by omega
        cases c1 : decide (k + 1 = i) with
        | true =>
          cases c3 : (r == 3) with
          | true =>
            have hno := pairs_no hi' hk' (by rw [hok, c1]; simp [bne, c3])
            simp only [V_seq, V_skip, V_ret, V_block, V_region, V_cond, brW_true, W_nil, W_cons, effOp2, KN_seq, KXr_nil, KXr_seq, KXr_block, KXr_back, QE, asB, effOp, effPure, effPick, effCall, giveUp, hasAll, pureV, pickV, binV, ofC, strip, lkT, lkH, ISt.app, opI, gO, gB, allB, gval, wrapG, dstOK, setD, lendV, lendP, lent, lentP, idsV, idsL, lkHS, flat, flatL, clean, cleanL, callArgs, callFn, allLent, Gives, Ideal.Fin, conv, conv0, Op.operands, reduceIte, reduceCtorEq, cond_true, cond_false, Bool.or_false, Bool.and_true, Bool.and_false, Bool.not_true, Nat.reduceLT, Nat.reduceEqDiff, ne_eq, beq_self_eq_true, true_and, and_true, false_and, and_self, false_implies, implies_true, List.map_cons, List.map_nil, List.nil_append, List.cons_append, List.append_nil, Option.bind_some, List.getElem?_cons_zero, List.getElem?_cons_succ, ex_clo, bft, btf, or_self, Bool.true_eq_false, Bool.false_eq_true, hN, pe, Int.toNat_natCast, encQ, isPs_enc, toPs_enc, lk_spec_isSimple_spec_edgeOf, lk_spec_isSimple_spec_relation, sp_spec_edgeOf, sp_spec_relation, hw, hw2, hz, j1, j2, j3, j4, q1, q2, t1, b1, b2, hr0, c1, c3, hno]
          | false =>
            have hst := lt_step hK (show rowOK l i k from by rw [rowOK, hok, c1]; simp [bne, c3])
            simp only [V_seq, V_skip, V_block, V_region, V_cond, brW_false, W_nil, W_cons, effOp2, KN_seq, KN_block, KN_back, asB, effOp, effPure, effPick, effCall, giveUp, hasAll, pureV, pickV, binV, ofC, strip, lkT, lkH, ISt.app, opI, gO, gB, allB, gval, wrapG, dstOK, setD, lendV, lendP, lent, lentP, idsV, idsL, lkHS, flat, flatL, clean, cleanL, callArgs, callFn, allLent, Op.operands, reduceIte, reduceCtorEq, cond_true, cond_false, Bool.or_false, Bool.and_true, Bool.and_false, Bool.not_true, Nat.reduceLT, Nat.reduceEqDiff, ne_eq, beq_self_eq_true, true_and, and_true, false_and, and_self, false_implies, implies_true, List.map_cons, List.map_nil, List.nil_append, List.cons_append, List.append_nil, Option.bind_some, List.getElem?_cons_zero, List.getElem?_cons_succ, ex_clo, bft, btf, or_self, Bool.true_eq_false, Bool.false_eq_true, hN, pe, Int.toNat_natCast, encQ, isPs_enc, toPs_enc, lk_spec_isSimple_spec_edgeOf, lk_spec_isSimple_spec_relation, sp_spec_edgeOf, sp_spec_relation, hw, hw2, hz, j1, j2, j3, j4, q1, q2, t1, b1, b2, hr0, c1, c3]
            repeat refine And.intro (by first | omega | (simp; done) | (simp; omega)) ?_
            exact ⟨k + 1, id, ⟨by omega, hst⟩, by simp only []; omega, by simp [SLe, SLe0, convTm, convHp, conv, conv0, lkT, lkH, clean]⟩
        | false =>
          cases c2 : decide ((i + 1) % l.length = k) with
          | true =>
            cases c3 : (r == 3) with
            | true =>
              have hno := pairs_no hi' hk' (by rw [hok, c1, c2]; simp [bne, c3])
              simp only [V_seq, V_skip, V_ret, V_block, V_region, V_cond, brW_true, W_nil, W_cons, effOp2, KN_seq, KXr_nil, KXr_seq, KXr_block, KXr_back, QE, asB, effOp, effPure, effPick, effCall, giveUp, hasAll, pureV, pickV, binV, ofC, strip, lkT, lkH, ISt.app, opI, gO, gB, allB, gval, wrapG, dstOK, setD, lendV, lendP, lent, lentP, idsV, idsL, lkHS, flat, flatL, clean, cleanL, callArgs, callFn, allLent, Gives, Ideal.Fin, conv, conv0, Op.operands, reduceIte, reduceCtorEq, cond_true, cond_false, Bool.or_false, Bool.and_true, Bool.and_false, Bool.not_true, Nat.reduceLT, Nat.reduceEqDiff, ne_eq, beq_self_eq_true, true_and, and_true, and_self, false_implies, implies_true, forall_const, List.map_cons, List.map_nil, List.nil_append, List.cons_append, List.append_nil, Option.bind_some, List.getElem?_cons_zero, List.getElem?_cons_succ, ex_clo, bft, btf, or_self, Bool.true_eq_false, Bool.false_eq_true, hN, pe, Int.toNat_natCast, encQ, isPs_enc, toPs_enc, lk_spec_isSimple_spec_edgeOf, lk_spec_isSimple_spec_relation, sp_spec_edgeOf, sp_spec_relation, hw, hw2, hz, j1, j2, j3, j4, q1, q2, t1, b1, b2, hr0, c1, c2, c3, hno]
              try omega
            | false =>
              have hst := lt_step hK (show rowOK l i k from by rw [rowOK, hok, c1, c2]; simp [bne, c3])
              simp only [V_seq, V_skip, V_block, V_region, V_cond, brW_false, W_nil, W_cons, effOp2, KN_seq, KN_block, KN_back, asB, effOp, effPure, effPick, effCall, giveUp, hasAll, pureV, pickV, binV, ofC, strip, lkT, lkH, ISt.app, opI, gO, gB, allB, gval, wrapG, dstOK, setD, lendV, lendP, lent, lentP, idsV, idsL, lkHS, flat, flatL, clean, cleanL, callArgs, callFn, allLent, Op.operands, reduceIte, reduceCtorEq, cond_true, cond_false, Bool.or_false, Bool.and_true, Bool.and_false, Bool.not_true, Nat.reduceLT, Nat.reduceEqDiff, ne_eq, beq_self_eq_true, true_and, and_true, and_self, false_implies, implies_true, forall_const, List.map_cons, List.map_nil, List.nil_append, List.cons_append, List.append_nil, Option.bind_some, List.getElem?_cons_zero, List.getElem?_cons_succ, ex_clo, bft, or_self, Bool.true_eq_false, Bool.false_eq_true, hN, pe, Int.toNat_natCast, encQ, isPs_enc, toPs_enc, lk_spec_isSimple_spec_edgeOf, lk_spec_isSimple_spec_relation, sp_spec_edgeOf, sp_spec_relation, hw, hw2, hz, j1, j2, j3, j4, q1, q2, t1, b1, b2, hr0, c1, c2, c3]
              repeat refine And.intro (by first | omega | (simp; done) | (simp; omega)) ?_
              exact ⟨k + 1, id, ⟨by omega, hst⟩, by simp only []; omega, by simp [SLe, SLe0, convTm, convHp, conv, conv0, lkT, lkH, clean]⟩
          | false =>
            cases c3 : (r != 0) with
            | true =>
              have hno := pairs_no hi' hk' (by rw [hok, c1, c2]; simpa [bne] using c3)
              simp only [V_seq, V_skip, V_ret, V_block, V_region, V_cond, brW_true, W_nil, W_cons, effOp2, KN_seq, KXr_nil, KXr_seq, KXr_block, KXr_back, QE, asB, effOp, effPure, effPick, effCall, giveUp, hasAll, pureV, pickV, binV, ofC, strip, lkT, lkH, ISt.app, opI, gO, gB, allB, gval, wrapG, dstOK, setD, lendV, lendP, lent, lentP, idsV, idsL, lkHS, flat, flatL, clean, cleanL, callArgs, callFn, allLent, Gives, Ideal.Fin, conv, conv0, Op.operands, reduceIte, reduceCtorEq, cond_true, cond_false, Bool.or_false, Bool.and_true, Bool.not_true, Bool.not_false, Nat.reduceLT, Nat.reduceEqDiff, ne_eq, beq_self_eq_true, true_and, and_true, and_self, false_implies, implies_true, forall_const, List.map_cons, List.map_nil, List.nil_append, List.cons_append, List.append_nil, Option.bind_some, List.getElem?_cons_zero, List.getElem?_cons_succ, ex_clo, bft, or_self, Bool.true_eq_false, Bool.false_eq_true, hN, pe, Int.toNat_natCast, encQ, isPs_enc, toPs_enc, lk_spec_isSimple_spec_edgeOf, lk_spec_isSimple_spec_relation, sp_spec_edgeOf, sp_spec_relation, hw, hw2, hz, j1, j2, j3, j4, q1, q2, t1, b1, b2, hr0, c1, c2, c3, hno]
              try omega
            | false =>
              have hst := lt_step hK (show rowOK l i k from by rw [rowOK, hok, c1, c2]; simpa [bne] using c3)
              simp only [V_seq, V_skip, V_block, V_region, V_cond, brW_false, W_nil, W_cons, effOp2, KN_seq, KN_block, KN_back, asB, effOp, effPure, effPick, effCall, giveUp, hasAll, pureV, pickV, binV, ofC, strip, lkT, lkH, ISt.app, opI, gO, gB, allB, gval, wrapG, dstOK, setD, lendV, lendP, lent, lentP, idsV, idsL, lkHS, flat, flatL, clean, cleanL, callArgs, callFn, allLent, Op.operands, reduceIte, reduceCtorEq, cond_true, cond_false, Bool.or_false, Bool.and_true, Bool.not_true, Bool.not_false, Nat.reduceLT, Nat.reduceEqDiff, ne_eq, beq_self_eq_true, true_and, and_true, and_self, false_implies, implies_true, forall_const, List.map_cons, List.map_nil, List.nil_append, List.cons_append, List.append_nil, Option.bind_some, List.getElem?_cons_zero, List.getElem?_cons_succ, ex_clo, bft, or_self, Bool.true_eq_false, Bool.false_eq_true, hN, pe, Int.toNat_natCast, encQ, isPs_enc, toPs_enc, lk_spec_isSimple_spec_edgeOf, lk_spec_isSimple_spec_relation, sp_spec_edgeOf, sp_spec_relation, hw, hw2, hz, j1, j2, j3, j4, q1, q2, t1, b1, b2, hr0, c1, c2, c3]
              repeat refine And.intro (by first | omega | (simp; done) | (simp; omega)) ?_
              exact ⟨k + 1, id, ⟨by omega, hst⟩, by simp only []; omega, by simp [SLe, SLe0, convTm, convHp, conv, conv0, lkT, lkH, clean]⟩
      · have hie : k = i := by simp at h; omega
        subst hie
        have hst := lt_step hI hK
        simp only [V_seq, V_ret, V_exit, V_region, W_nil, W_cons, effOp2, KN_seq, KN_block, KN_back, KXr_nil, KXe_nil, KXe_seq, KXe_block, KXe_back, QE, effOp, effPure, pureV, binV, ofC, strip, lkT, lkH, ISt.app, opI, gO, gB, allB, gval, wrapG, dstOK, setD, clean, Gives, Ideal.Fin, conv, conv0, Op.operands, reduceIte, reduceCtorEq, Nat.reduceLT, Nat.reduceEqDiff, true_and, and_true, and_self, implies_true, List.nil_append, List.cons_append, List.append_nil, hN, hw]
        exact ⟨k + 1, id, ⟨by omega, hst⟩, by simp only []; omega, by simp [SLe, SLe0, convTm, convHp, conv, conv0, lkT, lkH, clean]⟩
    · have hie : i = l.length := by simp at h; omega
      subst hie
      have hp := rows_all hI
      simp only [V_seq, V_ret, V_exit, V_region, W_nil, W_cons, effOp2, KN_seq, KXr_nil, KXe_nil, KXe_seq, KXe_block, KXe_back, QE, effOp, effPure, pureV, ofC, strip, lkT, lkH, ISt.app, opI, gO, gB, allB, gval, wrapG, dstOK, setD, clean, Gives, Ideal.Fin, conv, conv0, Op.operands, reduceIte, reduceCtorEq, Nat.reduceLT, Nat.reduceEqDiff, and_self, implies_true, List.nil_append, List.cons_append, List.append_nil, hN, hp]
def sp_spec_isSimple : PSpec := ⟨fun xs => match xs with | [.sl 2 les] => isPs les | _ => False, fun xs => match xs with | [.sl _ les] => (fun (l : List Pt) => .bool (simpB l)) (toPs les) | _ => .junk, false⟩
theorem gk_spec_isSimple : ∀ args, sp_spec_isSimple.pre args → ICall Try.prog 37 args (sp_spec_isSimple.val args) := by
  intro args h
  unfold sp_spec_isSimple at h ⊢; simp only at h ⊢; split at h
  · have h0 := h
    obtain ⟨l0, rfl⟩ := isP_ex h0
    simp only [toPs_enc] at *
    exact c_spec_isSimple _ 
  · exact h.elim
theorem en_spec_isSimple : Enters Try.prog 37 := enters_of Try.func37 (by kernel_rfl) rfl


def g_impl_simple : List (Nat × PSpec) := [(62, sp_impl_listOk), (69, sp_impl_within), (82, sp_impl_sorted_v), (83, sp_impl_edges_v), (43, sp_impl_relation)]
theorem gok_impl_simple : GOK Try.prog g_impl_simple := gok_cons gk_impl_listOk en_impl_listOk (gok_cons gk_impl_within en_impl_within (gok_cons gk_impl_sorted_v en_impl_sorted_v (gok_consO gk_impl_edges_v en_impl_edges_v (gok_cons gk_impl_relation en_impl_relation (gok0)))))
theorem lk_impl_simple_impl_listOk : lkG g_impl_simple 62 = sp_impl_listOk := rfl
theorem lk_impl_simple_impl_within : lkG g_impl_simple 69 = sp_impl_within := rfl
theorem lk_impl_simple_impl_sorted_v : lkG g_impl_simple 82 = sp_impl_sorted_v := rfl
theorem lk_impl_simple_impl_edges_v : lkG g_impl_simple 83 = sp_impl_edges_v := rfl
theorem lk_impl_simple_impl_relation : lkG g_impl_simple 43 = sp_impl_relation := rfl
def h_impl_simple : List (Nat × HSpec) := []
theorem hok_impl_simple : HOK Try.prog h_impl_simple := hok0
theorem c_impl_simple (l : List Pt)  : ICall Try.prog 36 [.sl 2 (encPs l)] (.bool (simpB l)) := by
  refine icall_V (G := g_impl_simple) (H := []) [] tabOK mixed gok_impl_simple hok_impl_simple Try.func36 rfl Try.ntmps36 Try.results36 rfl (by kernel_rfl) fun F hN hlen => ?_
  have el := len_encPs l
  have hr : simpB l = (okPs l && inR (l.length : Int) 3 20 && (((insP l).length : Int) == (l.length : Int)) && pairsP l) := rfl
  cases h1 : okPs l with
  | false =>
    rw [h1] at hr
    simp only [V_seq, V_ret, V_region, V_cond, brW_true, W_nil, W_cons, effOp2, KN_seq, KXr_nil, KXr_seq, QE, asB, effOp, effPure, effPick, effCall, giveUp, hasAll, pureV, pickV, binV, lenV, ofC, strip, lkT, lkH, ISt.app, opI, gO, gB, allB, gval, wrapG, dstOK, setD, lendV, lendP, lent, lentP, idsV, idsL, lkHS, flat, clean, callArgs, callFn, allLent, enumT, Gives, Ideal.Fin, conv, conv0, Op.operands, Call.operands, List.append_toArray, reduceIte, reduceCtorEq, cond_true, Bool.or_false, Bool.or_true, Bool.false_and, Bool.not_true, Bool.not_false, Nat.reduceLT, Nat.reduceEqDiff, ne_eq, not_false_eq_true, true_and, and_true, false_and, and_false, and_self, false_implies, implies_true, List.map_cons, List.map_nil, List.nil_append, List.cons_append, List.append_nil, Option.bind_some, List.getElem?_cons_zero, List.getElem?_cons_succ, ex_clo, btf, or_true, or_self, Bool.true_eq_false, Bool.false_eq_true, tab23, hN, isPs_enc, toPs_enc, lk_impl_simple_impl_listOk, lk_impl_simple_impl_within, lk_impl_simple_impl_sorted_v, sp_impl_listOk, sp_impl_within, sp_impl_sorted_v, el, h1, hr]
  | true =>
    have hn := okPs_len h1
    have hz : l.length ≤ 1000000 := by omega
    rw [h1] at hr
    cases h2 : inR (l.length : Int) 3 20 with
    | false =>
      rw [h2] at hr
      simp only [V_seq, V_ret, V_region, V_cond, brW_true, W_nil, W_cons, effOp2, KN_seq, KXr_nil, KXr_seq, QE, asB, effOp, effPure, effPick, effCall, giveUp, hasAll, pureV, pickV, binV, lenV, ofC, strip, lkT, lkH, ISt.app, opI, gO, gB, allB, gval, wrapG, dstOK, setD, lendV, lendP, lent, lentP, idsV, idsL, lkHS, flat, clean, callArgs, callFn, allLent, enumT, Gives, Ideal.Fin, conv, conv0, Op.operands, Call.operands, List.append_toArray, reduceIte, reduceCtorEq, cond_true, cond_false, Bool.or_false, Bool.or_true, Bool.and_false, Bool.false_and, Bool.not_true, Bool.not_false, Nat.reduceLT, Nat.reduceEqDiff, ne_eq, not_false_eq_true, beq_self_eq_true, true_and, and_true, false_and, and_false, and_self, false_implies, implies_true, List.map_cons, List.map_nil, List.nil_append, List.cons_append, List.append_nil, Option.bind_some, List.getElem?_cons_zero, List.getElem?_cons_succ, ex_clo, btf, or_true, or_self, Bool.true_eq_false, Bool.false_eq_true, tab23, hN, isPs_enc, toPs_enc, lk_impl_simple_impl_listOk, lk_impl_simple_impl_within, lk_impl_simple_impl_sorted_v, sp_impl_listOk, sp_impl_within, sp_impl_sorted_v, el, h1, h2, hr]
    | true =>
      have e1 := len_encPs (insP l)
      rw [h2] at hr
      cases h3 : (((insP l).length : Int) == (l.length : Int)) with
      | false =>
        rw [h3] at hr
        have d3 : (((insP l).length : Int) != (l.length : Int)) = true := by rw [bne, h3]; rfl
        simp only [V_seq, V_ret, V_region, V_cond, brW_true, W_nil, W_cons, effOp2, KN_seq, KXr_nil, KXr_seq, QE, asB, effOp, effPure, effPick, effCall, giveUp, hasAll, pureV, pickV, binV, lenV, ofC, strip, lkT, lkH, ISt.app, opI, gO, gB, allB, gval, wrapG, dstOK, setD, lendV, lendP, lent, lentP, idsV, idsL, lkHS, flat, clean, callArgs, callFn, allLent, enumT, Gives, Ideal.Fin, conv, conv0, Op.operands, Call.operands, List.append_toArray, reduceIte, reduceCtorEq, cond_true, cond_false, Bool.or_false, Bool.and_true, Bool.and_false, Bool.false_and, Bool.not_true, Nat.reduceLT, Nat.reduceEqDiff, ne_eq, not_false_eq_true, beq_self_eq_true, and_self, implies_true, List.map_cons, List.map_nil, List.nil_append, List.cons_append, List.append_nil, Option.bind_some, List.getElem?_cons_zero, List.getElem?_cons_succ, ex_clo, or_true, or_self, Bool.false_eq_true, tab23, hN, isPs_enc, toPs_enc, lk_impl_simple_impl_listOk, lk_impl_simple_impl_within, lk_impl_simple_impl_sorted_v, sp_impl_listOk, sp_impl_within, sp_impl_sorted_v, el, h1, h2, hz, e1, d3, hr]
      | true =>
        have d3 : (((insP l).length : Int) != (l.length : Int)) = false := by rw [bne, h3]; rfl
        rw [h3, Bool.true_and, Bool.true_and, Bool.true_and] at hr
        obtain ⟨hk, l3, h20, hnd⟩ := ring_facts (l := l) (by rw [ringB, h1, h2, h3]; rfl)
        have hm := okPs_sm hk
        have ee : (edgesP l).length = l.length := by rw [edgesP, edgesN_len]
        have eq : (encQs (edgesP l)).length = l.length := by rw [len_encQs, ee]
        simp only [V_seq, V_skip, V_block, V_region, V_cond, brW_false, W_nil, W_cons, effOp2, KN_seq, asB, effOp, effPure, effPick, effCall, giveUp, hasAll, pureV, pickV, binV, lenV, ofC, strip, lkT, lkH, ISt.app, opI, gO, gB, allB, gval, wrapG, dstOK, setD, lendV, lendP, lent, lentP, idsV, idsL, lkHS, flat, clean, callArgs, callFn, allLent, enumT, Op.operands, Call.operands, List.append_toArray, reduceIte, reduceCtorEq, cond_true, cond_false, Bool.or_false, Bool.or_true, Bool.not_true, Nat.reduceLT, Nat.reduceEqDiff, ne_eq, not_false_eq_true, beq_self_eq_true, true_and, and_self, implies_true, List.map_cons, List.map_nil, List.nil_append, List.cons_append, List.append_nil, Option.bind_some, List.getElem?_cons_zero, List.getElem?_cons_succ, ex_clo, or_true, or_self, Bool.false_eq_true, tab23, tab26, hN, isPs_enc, toPs_enc, lk_impl_simple_impl_listOk, lk_impl_simple_impl_within, lk_impl_simple_impl_sorted_v, lk_impl_simple_impl_edges_v, sp_impl_listOk, sp_impl_within, sp_impl_sorted_v, sp_impl_edges_v, el, h1, h2, hz, e1, d3, hr, eq]
        refine V_loop (α := Nat) ⟨tabOK, mixed, gok_impl_simple, hok_impl_simple⟩ (by kernel_rfl) (fun i => i ≤ l.length ∧ ∀ a, a < i → ∀ c, c < a → rowOK l a c) (fun i => ⟨[(30, .num .i64 i), (29, .num .i64 l.length), (28, .sl 4 (encQs (edgesP l))), (3, .sl 4 (encQs (edgesP l))), (0, .sl 2 (encPs l))], []⟩) (fun i => l.length - i) 0 id ⟨Nat.zero_le _, fun a h => absurd h (Nat.not_lt_zero a)⟩ (by simp [SLe, SLe0, convTm, convHp, conv, conv0, lkT, lkH, clean]) ?_
        rintro i ⟨hi, hI⟩
        simp only [V_seq, V_region, V_cond, W_nil, W_cons, effOp2, KN_seq, asB, effOp, effPure, pureV, binV, strip, lkT, ISt.app, opI, gO, gB, allB, gval, wrapG, dstOK, setD, Op.operands, reduceIte, reduceCtorEq, Nat.reduceLT, Nat.reduceEqDiff, true_and, and_self, implies_true, List.nil_append, List.cons_append, List.append_nil, hN]
        refine brW_some (fun h => ?_) (fun h => ?_)
        · have hi' : i < l.length := by simpa using h
          have hw := wr_succ hi' (by rw [maxLen_eq]; omega)
          have g0 := getD_encQs (l := edgesP l) (i := i) (by omega)
          rw [edgesP_at hi'] at g0
          have tk : ((edgesP l).take i).length = i := by rw [List.length_take]; omega
          have tq : (encQs ((edgesP l).take i)).length = i := by rw [len_encQs, tk]
          simp only [V_seq, V_skip, V_block, V_region, W_nil, W_cons, effOp2, KN_seq, effOp, effPure, effNew, effAlloc, effStore, skipE, pureV, storeV, partV, eltV, loadV, iaddrV, sliceV, lenV, over, solid, IV.cells, ofC, strip, lkT, lkH, ISt.app, opI, gO, gB, allB, gval, wrapG, dstOK, setD, mentTm, mentHp, IV.ment, IV.mentL, oneI, Op.operands, Call.operands, List.append_toArray, Array.append_empty, Option.toArray_none, Option.toArray_some, reduceIte, reduceCtorEq, cond_true, Bool.or_false, Bool.and_true, Nat.reduceAdd, Nat.reduceLT, Nat.reduceLeDiff, Nat.reduceEqDiff, Nat.zero_add, ne_eq, not_false_eq_true, true_and, and_true, and_false, and_self, implies_true, forall_const, List.nil_append, List.cons_append, List.append_nil, List.all_cons, List.all_nil, Option.map_some, Option.map_none, List.getD_cons_zero, List.length_cons, List.length_nil, List.take_succ_cons, List.take_zero, List.take_nil, List.drop_succ_cons, List.drop_zero, List.drop_nil, tab26, tab30, hN, Int.toNat_natCast, eq, g0, encQs_take, tq]
          repeat refine And.intro (by first | omega | (simp; done) | (simp; omega)) ?_
          refine V_loop (α := Nat) ⟨tabOK, mixed, gok_impl_simple, hok_impl_simple⟩ (by kernel_rfl) (fun k => k ≤ i ∧ ∀ c, c < k → rowOK l i c) (fun k => ⟨[(39, .num .i64 k), (38, .num .i64 i), (37, .sl 4 (encQs ((edgesP l).take i))), (5, .ptr 5 0), (4, .num .i64 i), (30, .num .i64 i), (29, .num .i64 l.length), (28, .sl 4 (encQs (edgesP l))), (3, .sl 4 (encQs (edgesP l))), (0, .sl 2 (encPs l))], [(5, some (.box 30 [.num .i64 (edgeP l i).1.1, .num .i64 (edgeP l i).1.2, .num .i64 (edgeP l i).2.1, .num .i64 (edgeP l i).2.2]))]⟩) (fun k => i - k) 0 id ⟨Nat.zero_le _, fun a h => absurd h (Nat.not_lt_zero a)⟩ (by simp [SLe, SLe0, convTm, convHp, convB, conv, conv0, convL, lkT, lkH, clean]) ?_
          rintro k ⟨hki, hK⟩
          simp only [V_seq, V_region, V_cond, W_nil, W_cons, effOp2, KN_seq, asB, effOp, effPure, pureV, binV, strip, lkT, ISt.app, opI, gO, gB, allB, gval, wrapG, dstOK, setD, Op.operands, reduceIte, reduceCtorEq, Nat.reduceLT, Nat.reduceEqDiff, true_and, and_self, implies_true, List.nil_append, List.cons_append, hN]
          refine brW_some (fun h => ?_) (fun h => ?_)
          · have hk' : k < i := by simpa using h
            have hkl : k < l.length := by omega
            have hw2 := wr_succ hk' (by rw [maxLen_eq]; omega)
            have g1 := getD_encQs (l := (edgesP l).take i) (i := k) (by omega)
            rw [edges_take (by omega) hk'] at g1
            have q1 := hm.edge i
            have q2 := hm.edge k
            have n1 := edge_ne hnd l3 hi'
            have n2 := edge_ne hnd l3 hkl
            have w1 : IntKind.i64.wrap ((i : Int) - (k : Int)) = (i : Int) - (k : Int) := wr (by omega) (by omega)
            have w2 : IntKind.i64.wrap ((l.length : Int) - 1) = (l.length : Int) - 1 := wr (by omega) (by omega)
            have hsame := ok_same hk' hi'
            obtain ⟨r, hr0⟩ : ∃ r, relP (edgeP l i) (edgeP l k) = r := ⟨_, rfl⟩
            have hr1 : relP (edP l i) (edP l k) = r := hr0
            rw [hr1] at hsame
            have hok : okI l.length i k r = (r == (if i - k = 1 ∨ i - k = l.length - 1 then 1 else 0)) := rfl
            cases c1 : ((i : Int) - (k : Int) == 1) with
            | true =>
              have c1' : i - k = 1 := by simp at c1; omega
              rw [if_pos (.inl c1')] at hok
              cases c3 : (r != 1) with
              | true =>
                have hno := pairs_no hi' hk' (by rw [hr1, ← hsame, hok]; simpa [bne] using c3)
                simp only [V_seq, V_skip, V_ret, V_block, V_region, V_cond, brW_true, W_nil, W_cons, effOp2, KN_seq, KXr_nil, KXr_seq, KXr_block, KXr_back, QE, asB, effOp, effPure, effPick, effNew, effAlloc, effStore, effCall, giveUp, hasAll, skipE, pureV, pickV, storeV, binV, partV, eltV, loadV, iaddrV, lenV, over, solid, IV.cells, ofC, strip, lkT, lkH, ISt.app, opI, gO, gB, allB, gval, wrapG, dstOK, setD, mentTm, mentHp, IV.ment, IV.mentL, oneI, lendV, lendP, lent, lentP, idsV, idsL, lkHS, flat, clean, callArgs, callFn, allLent, Gives, Ideal.Fin, conv, conv0, Op.operands, Call.operands, List.append_toArray, reduceIte, reduceCtorEq, cond_true, Bool.or_false, Bool.and_true, Bool.not_true, Nat.reduceAdd, Nat.reduceLT, Nat.reduceLeDiff, Nat.reduceEqDiff, Nat.reduceBEq, Nat.zero_add, ne_eq, not_false_eq_true, true_and, and_true, and_false, and_self, false_implies, implies_true, forall_const, List.map_cons, List.map_nil, List.nil_append, List.cons_append, List.append_nil, List.all_cons, List.all_nil, Option.bind_some, List.getElem?_cons_zero, List.getElem?_cons_succ, List.getD_cons_zero, List.length_cons, List.length_nil, List.take_succ_cons, List.take_zero, List.take_nil, List.drop_succ_cons, List.drop_zero, List.drop_nil, ex_clo, btf, or_self, Bool.true_eq_false, Bool.false_eq_true, tab23, tab26, tab30, hN, pe, Int.toNat_natCast, lk_impl_simple_impl_relation, sp_impl_relation, el, tq, g1, q1, q2, n1, n2, w1, w2, hr0, c1, c3, hno]
                repeat refine And.intro (by first | omega | (simp; done) | (simp; omega)) ?_
                omega
              | false =>
                have hst := lt_step hK (show rowOK l i k from by rw [rowOK, hr1, ← hsame, hok]; simpa [bne] using c3)
                simp only [V_seq, V_skip, V_block, V_region, V_cond, brW_true, brW_false, W_nil, W_cons, effOp2, KN_seq, KN_block, KN_back, asB, effOp, effPure, effPick, effNew, effAlloc, effStore, effCall, giveUp, hasAll, skipE, pureV, pickV, storeV, binV, partV, eltV, loadV, iaddrV, lenV, over, solid, IV.cells, ofC, strip, lkT, lkH, ISt.app, opI, gO, gB, allB, gval, wrapG, dstOK, setD, mentTm, mentHp, IV.ment, IV.mentL, oneI, lendV, lendP, lent, lentP, idsV, idsL, lkHS, flat, clean, callArgs, callFn, allLent, Op.operands, Call.operands, List.append_toArray, reduceIte, reduceCtorEq, cond_true, Bool.or_false, Bool.and_true, Bool.not_true, Nat.reduceAdd, Nat.reduceLT, Nat.reduceLeDiff, Nat.reduceEqDiff, Nat.reduceBEq, Nat.zero_add, ne_eq, not_false_eq_true, true_and, and_true, and_false, and_self, false_implies, implies_true, forall_const, List.map_cons, List.map_nil, List.nil_append, List.cons_append, List.append_nil, List.all_cons, List.all_nil, Option.bind_some, List.getElem?_cons_zero, List.getElem?_cons_succ, List.getD_cons_zero, List.length_cons, List.length_nil, List.take_succ_cons, List.take_zero, List.take_nil, List.drop_succ_cons, List.drop_zero, List.drop_nil, ex_clo, btf, or_self, Bool.true_eq_false, Bool.false_eq_true, tab23, tab26, tab30, hN, pe, Int.toNat_natCast, lk_impl_simple_impl_relation, sp_impl_relation, el, tq, hw2, g1, q1, q2, n1, n2, w1, w2, hr0, c1, c3]
                repeat refine And.intro (by first | omega | (simp; done) | (simp; omega)) ?_
                exact ⟨k + 1, id, ⟨by omega, hst⟩, by simp only []; omega, by simp [SLe, SLe0, convTm, convHp, convB, conv, conv0, convL, lkT, lkH, clean]⟩
            | false =>
              have c1' : ¬ i - k = 1 := by simp at c1; omega
              cases c2 : ((i : Int) - (k : Int) == (l.length : Int) - 1) with
              | true =>
                have c2' : i - k = l.length - 1 := by simp at c2; omega
                rw [if_pos (.inr c2')] at hok
                cases c3 : (r != 1) with
                | true =>
                  have hno := pairs_no hi' hk' (by rw [hr1, ← hsame, hok]; simpa [bne] using c3)
                  simp only [V_seq, V_skip, V_ret, V_block, V_region, V_cond, brW_true, W_nil, W_cons, effOp2, KN_seq, KXr_nil, KXr_seq, KXr_block, KXr_back, QE, asB, effOp, effPure, effPick, effNew, effAlloc, effStore, effCall, giveUp, hasAll, skipE, pureV, pickV, storeV, binV, partV, eltV, loadV, iaddrV, lenV, over, solid, IV.cells, ofC, strip, lkT, lkH, ISt.app, opI, gO, gB, allB, gval, wrapG, dstOK, setD, mentTm, mentHp, IV.ment, IV.mentL, oneI, lendV, lendP, lent, lentP, idsV, idsL, lkHS, flat, clean, callArgs, callFn, allLent, Gives, Ideal.Fin, conv, conv0, Op.operands, Call.operands, List.append_toArray, reduceIte, reduceCtorEq, cond_true, cond_false, Bool.or_false, Bool.and_true, Bool.not_true, Nat.reduceAdd, Nat.reduceLT, Nat.reduceLeDiff, Nat.reduceEqDiff, Nat.reduceBEq, Nat.zero_add, ne_eq, not_false_eq_true, beq_self_eq_true, true_and, and_true, and_false, and_self, implies_true, forall_const, List.map_cons, List.map_nil, List.nil_append, List.cons_append, List.append_nil, List.all_cons, List.all_nil, Option.bind_some, List.getElem?_cons_zero, List.getElem?_cons_succ, List.getD_cons_zero, List.length_cons, List.length_nil, List.take_succ_cons, List.take_zero, List.take_nil, List.drop_succ_cons, List.drop_zero, List.drop_nil, ex_clo, or_self, Bool.false_eq_true, tab23, tab26, tab30, hN, pe, Int.toNat_natCast, lk_impl_simple_impl_relation, sp_impl_relation, el, tq, g1, q1, q2, n1, n2, w1, w2, hr0, c1, c2, c3, hno]
                  repeat refine And.intro (by first | omega | (simp; done) | (simp; omega)) ?_
                  omega
                | false =>
                  have hst := lt_step hK (show rowOK l i k from by rw [rowOK, hr1, ← hsame, hok]; simpa [bne] using c3)
                  simp only [V_seq, V_skip, V_block, V_region, V_cond, brW_true, brW_false, W_nil, W_cons, effOp2, KN_seq, KN_block, KN_back, asB, effOp, effPure, effPick, effNew, effAlloc, effStore, effCall, giveUp, hasAll, skipE, pureV, pickV, storeV, binV, partV, eltV, loadV, iaddrV, lenV, over, solid, IV.cells, ofC, strip, lkT, lkH, ISt.app, opI, gO, gB, allB, gval, wrapG, dstOK, setD, mentTm, mentHp, IV.ment, IV.mentL, oneI, lendV, lendP, lent, lentP, idsV, idsL, lkHS, flat, clean, callArgs, callFn, allLent, Op.operands, Call.operands, List.append_toArray, reduceIte, reduceCtorEq, cond_true, cond_false, Bool.or_false, Bool.and_true, Bool.not_true, Nat.reduceAdd, Nat.reduceLT, Nat.reduceLeDiff, Nat.reduceEqDiff, Nat.reduceBEq, Nat.zero_add, ne_eq, not_false_eq_true, beq_self_eq_true, true_and, and_true, and_false, and_self, implies_true, forall_const, List.map_cons, List.map_nil, List.nil_append, List.cons_append, List.append_nil, List.all_cons, List.all_nil, Option.bind_some, List.getElem?_cons_zero, List.getElem?_cons_succ, List.getD_cons_zero, List.length_cons, List.length_nil, List.take_succ_cons, List.take_zero, List.take_nil, List.drop_succ_cons, List.drop_zero, List.drop_nil, ex_clo, or_self, Bool.false_eq_true, tab23, tab26, tab30, hN, pe, Int.toNat_natCast, lk_impl_simple_impl_relation, sp_impl_relation, el, tq, hw2, g1, q1, q2, n1, n2, w1, w2, hr0, c1, c2, c3]
                  repeat refine And.intro (by first | omega | (simp; done) | (simp; omega)) ?_
                  exact ⟨k + 1, id, ⟨by omega, hst⟩, by simp only []; omega, by simp [SLe, SLe0, convTm, convHp, convB, conv, conv0, convL, lkT, lkH, clean]⟩
              | false =>
                have c2' : ¬ i - k = l.length - 1 := by simp at c2; omega
                rw [if_neg (by omega)] at hok
                cases c3 : (r != 0) with
                | true =>
                  have hno := pairs_no hi' hk' (by rw [hr1, ← hsame, hok]; simpa [bne] using c3)
                  simp only [V_seq, V_skip, V_ret, V_block, V_region, V_cond, brW_true, brW_false, W_nil, W_cons, effOp2, KN_seq, KXr_nil, KXr_seq, KXr_block, KXr_back, QE, asB, effOp, effPure, effPick, effNew, effAlloc, effStore, effCall, giveUp, hasAll, skipE, pureV, pickV, storeV, binV, partV, eltV, loadV, iaddrV, lenV, over, solid, IV.cells, ofC, strip, lkT, lkH, ISt.app, opI, gO, gB, allB, gval, wrapG, dstOK, setD, mentTm, mentHp, IV.ment, IV.mentL, oneI, lendV, lendP, lent, lentP, idsV, idsL, lkHS, flat, clean, callArgs, callFn, allLent, Gives, Ideal.Fin, conv, conv0, Op.operands, Call.operands, List.append_toArray, reduceIte, reduceCtorEq, cond_true, cond_false, Bool.or_false, Bool.and_true, Bool.not_true, Nat.reduceAdd, Nat.reduceLT, Nat.reduceLeDiff, Nat.reduceEqDiff, Nat.reduceBEq, Nat.zero_add, ne_eq, not_false_eq_true, beq_self_eq_true, true_and, and_true, and_false, and_self, implies_true, forall_const, List.map_cons, List.map_nil, List.nil_append, List.cons_append, List.append_nil, List.all_cons, List.all_nil, Option.bind_some, List.getElem?_cons_zero, List.getElem?_cons_succ, List.getD_cons_zero, List.length_cons, List.length_nil, List.take_succ_cons, List.take_zero, List.take_nil, List.drop_succ_cons, List.drop_zero, List.drop_nil, ex_clo, or_self, Bool.false_eq_true, tab23, tab26, tab30, hN, pe, Int.toNat_natCast, lk_impl_simple_impl_relation, sp_impl_relation, el, tq, g1, q1, q2, n1, n2, w1, w2, hr0, c1, c2, c3, hno]
                  repeat refine And.intro (by first | omega | (simp; done) | (simp; omega)) ?_
                  omega
                | false =>
                  have hst := lt_step hK (show rowOK l i k from by rw [rowOK, hr1, ← hsame, hok]; simpa [bne] using c3)
                  simp only [V_seq, V_skip, V_block, V_region, V_cond, brW_false, W_nil, W_cons, effOp2, KN_seq, KN_block, KN_back, asB, effOp, effPure, effPick, effNew, effAlloc, effStore, effCall, giveUp, hasAll, skipE, pureV, pickV, storeV, binV, partV, eltV, loadV, iaddrV, lenV, over, solid, IV.cells, ofC, strip, lkT, lkH, ISt.app, opI, gO, gB, allB, gval, wrapG, dstOK, setD, mentTm, mentHp, IV.ment, IV.mentL, oneI, lendV, lendP, lent, lentP, idsV, idsL, lkHS, flat, clean, callArgs, callFn, allLent, Op.operands, Call.operands, List.append_toArray, reduceIte, reduceCtorEq, cond_true, cond_false, Bool.or_false, Bool.and_true, Bool.not_true, Nat.reduceAdd, Nat.reduceLT, Nat.reduceLeDiff, Nat.reduceEqDiff, Nat.reduceBEq, Nat.zero_add, ne_eq, not_false_eq_true, beq_self_eq_true, true_and, and_true, and_false, and_self, implies_true, forall_const, List.map_cons, List.map_nil, List.nil_append, List.cons_append, List.append_nil, List.all_cons, List.all_nil, Option.bind_some, List.getElem?_cons_zero, List.getElem?_cons_succ, List.getD_cons_zero, List.length_cons, List.length_nil, List.take_succ_cons, List.take_zero, List.take_nil, List.drop_succ_cons, List.drop_zero, List.drop_nil, ex_clo, or_self, Bool.false_eq_true, tab23, tab26, tab30, hN, pe, Int.toNat_natCast, lk_impl_simple_impl_relation, sp_impl_relation, el, tq, hw2, g1, q1, q2, n1, n2, w1, w2, hr0, c1, c2, c3]
                  repeat refine And.intro (by first | omega | (simp; done) | (simp; omega)) ?_
                  exact ⟨k + 1, id, ⟨by omega, hst⟩, by simp only []; omega, by simp [SLe, SLe0, convTm, convHp, convB, conv, conv0, convL, lkT, lkH, clean]⟩
          · have hie : k = i := by simp at h; omega
            subst hie
            have hst := lt_step hI hK
            simp only [V_seq, V_ret, V_exit, V_region, W_nil, W_cons, effOp2, KN_seq, KN_block, KN_back, KXr_nil, KXe_nil, KXe_seq, KXe_block, KXe_back, QE, effOp, effPure, pureV, binV, ofC, strip, lkT, lkH, ISt.app, opI, gO, gB, allB, gval, wrapG, dstOK, setD, clean, Gives, Ideal.Fin, conv, conv0, Op.operands, reduceIte, reduceCtorEq, Nat.reduceLT, Nat.reduceEqDiff, true_and, and_true, and_self, implies_true, List.nil_append, List.cons_append, hN, hw]
            exact ⟨k + 1, id, ⟨by omega, hst⟩, by simp only []; omega, by simp [SLe, SLe0, convTm, convHp, conv, conv0, lkT, lkH, clean]⟩
        · have hie : i = l.length := by simp at h; omega
          subst hie
          have hp := rows_all hI
          simp only [V_seq, V_ret, V_exit, V_region, W_nil, W_cons, effOp2, KN_seq, KXr_nil, KXe_nil, KXe_seq, KXe_block, KXe_back, QE, effOp, effPure, pureV, ofC, strip, lkT, lkH, ISt.app, opI, gO, gB, allB, gval, wrapG, dstOK, setD, clean, Gives, Ideal.Fin, conv, conv0, Op.operands, reduceIte, reduceCtorEq, Nat.reduceLT, Nat.reduceEqDiff, and_self, implies_true, List.nil_append, List.cons_append, List.append_nil, hN, hp]
def sp_impl_simple : PSpec := ⟨fun xs => match xs with | [.sl 2 les] => isPs les | _ => False, fun xs => match xs with | [.sl _ les] => (fun (l : List Pt) => .bool (simpB l)) (toPs les) | _ => .junk, false⟩
theorem gk_impl_simple : ∀ args, sp_impl_simple.pre args → ICall Try.prog 36 args (sp_impl_simple.val args) := by
  intro args h
  unfold sp_impl_simple at h ⊢; simp only at h ⊢; split at h
  · have h0 := h
    obtain ⟨l0, rfl⟩ := isP_ex h0
    simp only [toPs_enc] at *
    exact c_impl_simple _ 
  · exact h.elim
theorem en_impl_simple : Enters Try.prog 36 := enters_of Try.func36 (by kernel_rfl) rfl

def g_spec_IsSimple : List (Nat × PSpec) := [(37, sp_spec_isSimple)]
theorem gok_spec_IsSimple : GOK Try.prog g_spec_IsSimple := gok_cons gk_spec_isSimple en_spec_isSimple (gok0)
theorem lk_spec_IsSimple_spec_isSimple : lkG g_spec_IsSimple 37 = sp_spec_isSimple := rfl
def h_spec_IsSimple : List (Nat × HSpec) := []
theorem hok_spec_IsSimple : HOK Try.prog h_spec_IsSimple := hok0
theorem c_spec_IsSimple (l : List Pt)  : ICall Try.prog 10 [.sl 2 (encPs l)] (.bool (simpB l)) := by
  refine icall_V (G := g_spec_IsSimple) (H := []) [] tabOK mixed gok_spec_IsSimple hok_spec_IsSimple Try.func10 rfl Try.ntmps10 Try.results10 rfl (by kernel_rfl) fun F hN hlen => ?_
  simp only [V_seq, V_ret, V_region, W_nil, W_cons, effOp2, KN_seq, KXr_nil, QE, effOp, effPure, effCall, giveUp, hasAll, pureV, ofC, strip, lkT, lkH, ISt.app, opI, gO, gB, allB, gval, wrapG, dstOK, setD, lendV, lendP, lent, lentP, idsV, idsL, lkHS, flat, clean, callArgs, callFn, allLent, enumT, Gives, Ideal.Fin, conv, conv0, Op.operands, reduceIte, reduceCtorEq, cond_true, Bool.or_false, Bool.not_true, Nat.reduceLT, Nat.reduceEqDiff, and_self, implies_true, List.map_cons, List.map_nil, List.nil_append, List.cons_append, List.append_nil, ex_clo, or_self, hN, isPs_enc, toPs_enc, lk_spec_IsSimple_spec_isSimple, sp_spec_isSimple]
def sp_spec_IsSimple : PSpec := ⟨fun xs => match xs with | [.sl 2 les] => isPs les | _ => False, fun xs => match xs with | [.sl _ les] => (fun (l : List Pt) => .bool (simpB l)) (toPs les) | _ => .junk, false⟩
theorem gk_spec_IsSimple : ∀ args, sp_spec_IsSimple.pre args → ICall Try.prog 10 args (sp_spec_IsSimple.val args) := by
  intro args h
  unfold sp_spec_IsSimple at h ⊢; simp only at h ⊢; split at h
  · have h0 := h
    obtain ⟨l0, rfl⟩ := isP_ex h0
    simp only [toPs_enc] at *
    exact c_spec_IsSimple _ 
  · exact h.elim
theorem en_spec_IsSimple : Enters Try.prog 10 := enters_of Try.func10 (by kernel_rfl) rfl

def g_impl_IsSimple : List (Nat × PSpec) := [(36, sp_impl_simple)]
theorem gok_impl_IsSimple : GOK Try.prog g_impl_IsSimple := gok_cons gk_impl_simple en_impl_simple (gok0)
theorem lk_impl_IsSimple_impl_simple : lkG g_impl_IsSimple 36 = sp_impl_simple := rfl
def h_impl_IsSimple : List (Nat × HSpec) := []
theorem hok_impl_IsSimple : HOK Try.prog h_impl_IsSimple := hok0
theorem c_impl_IsSimple (l : List Pt)  : ICall Try.prog 9 [.sl 2 (encPs l)] (.bool (simpB l)) := by
  refine icall_V (G := g_impl_IsSimple) (H := []) [] tabOK mixed gok_impl_IsSimple hok_impl_IsSimple Try.func9 rfl Try.ntmps9 Try.results9 rfl (by kernel_rfl) fun F hN hlen => ?_
  simp only [V_seq, V_ret, V_region, W_nil, W_cons, effOp2, KN_seq, KXr_nil, QE, effOp, effPure, effCall, giveUp, hasAll, pureV, ofC, strip, lkT, lkH, ISt.app, opI, gO, gB, allB, gval, wrapG, dstOK, setD, lendV, lendP, lent, lentP, idsV, idsL, lkHS, flat, clean, callArgs, callFn, allLent, enumT, Gives, Ideal.Fin, conv, conv0, Op.operands, reduceIte, reduceCtorEq, cond_true, Bool.or_false, Bool.not_true, Nat.reduceLT, Nat.reduceEqDiff, and_self, implies_true, List.map_cons, List.map_nil, List.nil_append, List.cons_append, List.append_nil, ex_clo, or_self, hN, isPs_enc, toPs_enc, lk_impl_IsSimple_impl_simple, sp_impl_simple]
def sp_impl_IsSimple : PSpec := ⟨fun xs => match xs with | [.sl 2 les] => isPs les | _ => False, fun xs => match xs with | [.sl _ les] => (fun (l : List Pt) => .bool (simpB l)) (toPs les) | _ => .junk, false⟩
theorem gk_impl_IsSimple : ∀ args, sp_impl_IsSimple.pre args → ICall Try.prog 9 args (sp_impl_IsSimple.val args) := by
  intro args h
  unfold sp_impl_IsSimple at h ⊢; simp only at h ⊢; split at h
  · have h0 := h
    obtain ⟨l0, rfl⟩ := isP_ex h0
    simp only [toPs_enc] at *
    exact c_impl_IsSimple _ 
  · exact h.elim
theorem en_impl_IsSimple : Enters Try.prog 9 := enters_of Try.func9 (by kernel_rfl) rfl


end Go.Proofs.Ytlcndghaendieaa
