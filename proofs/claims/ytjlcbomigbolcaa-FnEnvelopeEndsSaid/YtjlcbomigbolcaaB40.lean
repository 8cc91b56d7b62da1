/- Contracts: the reference's upper envelope. -/
import Derived.Test.YtjlcbomigbolcaaB39
set_option linter.unusedVariables false
set_option linter.unusedSimpArgs false
set_option maxHeartbeats 3200000
set_option maxRecDepth 100000
namespace Go.Proofs.Ytjlcbomigbolcaa
open Go Go.Ideal Go.Pl Go.Sort

def g_spec_hidden : List (Nat × PSpec) := []
theorem gok_spec_hidden : GOK Try.prog g_spec_hidden := gok0
def h_spec_hidden : List (Nat × HSpec) := []
theorem hok_spec_hidden : HOK Try.prog h_spec_hidden := hok0
theorem c_spec_hidden (a : Pt) (b : Pt) (c : Pt) (ha : in1 a) (hb : in1 b) (hc : in1 c) : ICall Try.prog 104 [encP a, encP b, encP c] (.bool (decide (turn a b c ≤ 0))) := by
  refine icall_V (G := g_spec_hidden) (H := []) [] tabOK mixed gok_spec_hidden hok_spec_hidden Try.func104 rfl Try.ntmps104 Try.results104 rfl (by kernel_rfl) fun F hN hlen => ?_
  unfold in1 at ha hb hc
  have m1 := mulB (A := 2000) (B := 2000) (x := c.2 - a.2) (y := b.1 - a.1) (by omega) (by omega)
  have m2 := mulB (A := 2000) (B := 2000) (x := b.2 - a.2) (y := c.1 - a.1) (by omega) (by omega)
  have w1 : IntKind.i64.wrap (c.2 - a.2) = c.2 - a.2 := wr (by omega) (by omega)
  have w2 : IntKind.i64.wrap (b.1 - a.1) = b.1 - a.1 := wr (by omega) (by omega)
  have w3 : IntKind.i64.wrap (b.2 - a.2) = b.2 - a.2 := wr (by omega) (by omega)
  have w4 : IntKind.i64.wrap (c.1 - a.1) = c.1 - a.1 := wr (by omega) (by omega)
  have w5 : IntKind.i64.wrap ((c.2 - a.2) * (b.1 - a.1)) = (c.2 - a.2) * (b.1 - a.1) := wr (by omega) (by omega)
  have w6 : IntKind.i64.wrap ((b.2 - a.2) * (c.1 - a.1)) = (b.2 - a.2) * (c.1 - a.1) := wr (by omega) (by omega)
  have hv : decide (turn a b c ≤ 0) = decide ((c.2 - a.2) * (b.1 - a.1) ≤ (b.2 - a.2) * (c.1 - a.1)) := by
    rw [Bool.eq_iff_iff, decide_eq_true_iff, decide_eq_true_iff]
    unfold turn
    rw [Int.mul_comm (b.1 - a.1)]
    omega
  simp only [V_seq, V_ret, V_region, W_nil, W_cons, effOp2, KN_seq, KXr_nil, QE, effOp, effPure, effNew, effBox, skipE, pureV, binV, partV, loadV, faddrV, solid, IV.cells, ofC, strip, lkT, lkH, ISt.app, opI, gO, gB, allB, gval, wrapG, dstOK, setD, mentTm, mentHp, IV.ment, IV.mentL, oneI, clean, enumT, Gives, Ideal.Fin, conv, conv0, IBlk.shape, Op.operands, reduceIte, reduceCtorEq, cond_true, Bool.or_false, Bool.and_true, Nat.reduceAdd, Nat.reduceLT, Nat.reduceLeDiff, Nat.reduceEqDiff, Nat.reduceBEq, Nat.add_zero, Nat.zero_add, and_self, implies_true, List.nil_append, List.cons_append, List.append_nil, List.all_cons, List.all_nil, Option.map_some, List.getD_cons_zero, List.getD_cons_succ, List.length_cons, List.length_nil, List.take_succ_cons, List.take_zero, List.take_nil, List.drop_succ_cons, List.drop_zero, tab3, tab66, hN, encP, w1, w2, w3, w4, w5, w6, hv]
def sp_spec_hidden : PSpec := ⟨fun xs => match xs with | [.agg [.num .i64 a1, .num .i64 a2], .agg [.num .i64 b1, .num .i64 b2], .agg [.num .i64 c1, .num .i64 c2]] => ((fun (a : Pt) (b : Pt) (c : Pt) => in1 a) (a1, a2) (b1, b2) (c1, c2)) ∧ ((fun (a : Pt) (b : Pt) (c : Pt) => in1 b) (a1, a2) (b1, b2) (c1, c2)) ∧ ((fun (a : Pt) (b : Pt) (c : Pt) => in1 c) (a1, a2) (b1, b2) (c1, c2)) | _ => False, fun xs => match xs with | [.agg [.num _ a1, .num _ a2], .agg [.num _ b1, .num _ b2], .agg [.num _ c1, .num _ c2]] => (fun (a : Pt) (b : Pt) (c : Pt) => .bool (decide (turn a b c ≤ 0))) (a1, a2) (b1, b2) (c1, c2) | _ => .junk, false⟩
theorem gk_spec_hidden : ∀ args, sp_spec_hidden.pre args → ICall Try.prog 104 args (sp_spec_hidden.val args) := by
  intro args h
  unfold sp_spec_hidden at h ⊢; simp only at h ⊢; split at h
  · obtain ⟨h0, h1, h2⟩ := h
    simp only [toPs_enc] at *
    exact c_spec_hidden (_, _) (_, _) (_, _) h0 h1 h2
  · exact h.elim
theorem en_spec_hidden : Enters Try.prog 104 := enters_of Try.func104 (by kernel_rfl) rfl

/-- Does a graph come behind another one in order? -/
def abvB (a p : Pt) : Bool := decide (p.1 < a.1) || (a.1 == p.1 && decide (a.2 < p.2))
theorem abv_yes {a p : Pt} (h : abvB a p = true) : leE p a := by
  simp only [abvB, Bool.or_eq_true, Bool.and_eq_true, decide_eq_true_eq, beq_iff_eq] at h
  unfold leE; omega
theorem abv_no {a p : Pt} (h : abvB a p = false) : leE a p := by
  simp only [abvB, Bool.or_eq_false_iff, Bool.and_eq_false_iff, decide_eq_false_iff_not, beq_eq_false_iff_ne] at h
  unfold leE; omega
theorem leE_trans {a b c : Pt} (h1 : leE a b) (h2 : leE b c) : leE a c := by unfold leE at *; omega
/-- A graph put in at its place. -/
theorem ins_pair {l : List Pt} {ord : List Nat} {i k : Nat} (hp : (ord.map (pA l)).Pairwise leE) (hk : k ≤ ord.length) (h1 : ∀ j, k ≤ j → j < ord.length → leE (pA l i) (pA l (nAt ord j))) (h2 : 0 < k → leE (pA l (nAt ord (k - 1))) (pA l i)) :
    ((ord.take k ++ [i] ++ ord.drop k).map (pA l)).Pairwise leE := by
  have hpi := hp
  rw [List.pairwise_map, List.pairwise_iff_getElem] at hpi
  have at' : ∀ j (h : j < ord.length), nAt ord j = ord[j] := fun j h => by simp [nAt, List.getD, h]
  have ht : ∀ a ∈ ord.take k, leE (pA l a) (pA l i) := by
    intro a ha
    obtain ⟨j, hj, rfl⟩ := List.mem_iff_getElem.1 ha
    rw [List.length_take] at hj
    have e : (ord.take k)[j]'(by rw [List.length_take]; exact hj) = ord[j]'(by omega) := by simp
    rw [e]
    have hl := h2 (by omega)
    rw [at' _ (by omega)] at hl
    rcases Nat.lt_or_ge j (k - 1) with c | c
    · exact leE_trans (hpi j (k - 1) (by omega) (by omega) c) hl
    · have : j = k - 1 := by omega
      subst this; exact hl
  have hd : ∀ b ∈ ord.drop k, leE (pA l i) (pA l b) := by
    intro b hb
    obtain ⟨j, hj, rfl⟩ := List.mem_iff_getElem.1 hb
    rw [List.length_drop] at hj
    have := h1 (k + j) (by omega) (by omega)
    rw [at' _ (by omega)] at this
    simpa using this
  rw [List.pairwise_map, List.append_assoc, List.pairwise_append, List.singleton_append, List.pairwise_cons]
  rw [List.pairwise_map] at hp
  refine ⟨hp.sublist (List.take_sublist _ _), ⟨hd, hp.sublist (List.drop_sublist _ _)⟩, fun a ha b hb => ?_⟩
  rcases List.mem_cons.1 hb with rfl | hb
  · exact ht a ha
  · exact leE_trans (ht a ha) (hd b hb)
theorem nat_rev0 (b : Nat) (r : List Nat) : nAt (b :: r).reverse r.length = b := by simp [List.getD]
theorem nat_rev2 (b a : Nat) (r : List Nat) : nAt (b :: a :: r).reverse (r.length + 1) = b := by simp [List.getD]
theorem nat_rev1 (b a : Nat) (r : List Nat) : nAt (b :: a :: r).reverse r.length = a := by simp [List.getD]
def g_spec_UpperEnvelope : List (Nat × PSpec) := [(103, sp_spec_validGraphs), (104, sp_spec_hidden)]
theorem gok_spec_UpperEnvelope : GOK Try.prog g_spec_UpperEnvelope := gok_cons gk_spec_validGraphs en_spec_validGraphs (gok_cons gk_spec_hidden en_spec_hidden (gok0))
theorem lk_spec_UpperEnvelope_spec_validGraphs : lkG g_spec_UpperEnvelope 103 = sp_spec_validGraphs := rfl
theorem lk_spec_UpperEnvelope_spec_hidden : lkG g_spec_UpperEnvelope 104 = sp_spec_hidden := rfl
def h_spec_UpperEnvelope : List (Nat × HSpec) := []
theorem hok_spec_UpperEnvelope : HOK Try.prog h_spec_UpperEnvelope := hok0
theorem c_spec_UpperEnvelope (l : List Pt)  : ICall Try.prog 34 [.sl 2 (encPs l)] (.sl 1 (encN (envV l))) := by
  refine icall_V (G := g_spec_UpperEnvelope) (H := []) [(18, [(0, 42), (1, 42), (2, 42), (3, 42), (4, 42), (5, 42), (6, 42), (7, 42), (8, 42), (9, 42), (10, 42), (11, 42), (12, 42), (13, 42), (14, 42), (15, 42), (16, 42), (17, 42), (18, 42), (19, 42), (20, 42), (21, 42), (23, 42), (24, 42), (25, 42), (26, 42), (27, 42), (28, 42), (29, 42), (30, 42), (32, 42), (33, 42), (34, 42), (35, 42), (36, 42), (37, 42), (38, 42), (39, 42), (42, 44)])] tabOK mixed gok_spec_UpperEnvelope hok_spec_UpperEnvelope Try.func34 rfl Try.ntmps34 Try.results34 rfl (by kernel_rfl) fun F hN hlen => ?_
  cases hk : okGs l with
  | false =>
    have e : envV l = [] := by rw [envV, hk]; rfl
    simp only [V_seq, V_ret, V_region, V_cond, brW_true, W_nil, W_cons, effOp2, KN_seq, KXr_nil, KXr_seq, QE, asB, effOp, effPure, effCall, giveUp, hasAll, pureV, ofC, strip, lkT, lkH, ISt.app, opI, gO, gB, allB, gval, wrapG, dstOK, setD, lendV, lendP, lent, lentP, idsV, idsL, lkHS, flat, clean, callArgs, callFn, allLent, enumT, Gives, Ideal.Fin, conv, conv0, Op.operands, reduceIte, reduceCtorEq, cond_true, Bool.or_false, Bool.not_true, Bool.not_false, Nat.reduceLT, Nat.reduceEqDiff, and_self, implies_true, List.map_cons, List.map_nil, List.nil_append, List.cons_append, List.append_nil, ex_clo, or_self, hN, isPs_enc, toPs_enc, lk_spec_UpperEnvelope_spec_validGraphs, sp_spec_validGraphs, hk, e, encN_nil]
  | true =>
    have e : envV l = envP l := by rw [envV, hk]; rfl
    obtain ⟨h8, hok, hnd⟩ := okGs_facts hk
    have el := len_encPs l
    simp only [V_seq, V_skip, V_block, V_region, V_cond, brW_false, W_nil, W_cons, effOp2, KN_seq, asB, effOp, effPure, effNew, effBuildSlice, effFrz, frz, tmpsOf, effCall, giveUp, hasAll, skipE, pureV, ofC, strip, lkT, lkH, ISt.app, opI, gO, gB, allB, gval, wrapG, dstOK, setD, mentTm, mentHp, IV.ment, partsL, eltsI, lendV, lendP, lent, lentP, idsV, idsL, lkHS, flat, clean, callArgs, callFn, allLent, enumT, Op.operands, reduceIte, reduceCtorEq, cond_true, Bool.or_false, Bool.not_true, Nat.reduceMul, Nat.reduceLT, Nat.reduceLeDiff, Nat.reduceEqDiff, ne_eq, not_false_eq_true, true_and, and_self, implies_true, List.map_cons, List.map_nil, List.nil_append, List.cons_append, List.append_nil, List.length_nil, ex_clo, or_self, tab3, tab50, hN, isPs_enc, toPs_enc, lk_spec_UpperEnvelope_spec_validGraphs, sp_spec_validGraphs, hk, e]
    refine V_loop (α := Nat × List Nat) ⟨tabOK, mixed, gok_spec_UpperEnvelope, hok_spec_UpperEnvelope⟩ (by kernel_rfl) (fun b => b.1 ≤ l.length ∧ b.2.length = b.1 ∧ (∀ x, x ∈ b.2 ↔ x < b.1) ∧ (b.2.map (pA l)).Pairwise leE)
      (fun b => ⟨[(4, .num .i64 b.1), (3, .ref 13 0 b.1 true), (0, .sl 2 (encPs l))], [(13, some (.arr 1 3 (encN b.2)))]⟩) (fun b => l.length - b.1) (0, []) id ⟨Nat.zero_le _, rfl, by simp, by simp⟩ (by simp [SLe, SLe0, convTm, convHp, convB, conv, conv0, lkT, lkH, clean, encN, encI]) ?_
    rintro ⟨i, ord⟩ ⟨hi, hol, hom, hop⟩
    simp only [] at hi hol hom hop
    have eo := len_encN ord
    rw [hol] at eo
    have hx : ∃ k ty es, IBlk.arr 1 3 (encN ord) = IBlk.arr k ty es := ⟨_, _, _, rfl⟩
    simp only [V_seq, V_region, V_cond, W_nil, W_cons, effOp2, KN_seq, asB, effOp, effPure, pureV, binV, lenV, strip, lkT, ISt.app, opI, gO, gB, allB, gval, wrapG, dstOK, setD, Op.operands, Call.operands, List.append_toArray, reduceIte, reduceCtorEq, Nat.reduceLT, Nat.reduceEqDiff, ne_eq, not_false_eq_true, true_and, and_self, implies_true, List.nil_append, List.cons_append, tab57, hN, el]
    refine brW_some (fun h => ?_) (fun h => ?_)
    · have hi' : i < l.length := by simpa using h
      have g0 := getD_encPs hi'
      have hw := wr_succ hi' (by rw [maxLen_eq]; omega)
      have hpa : pAt l i = pA l i := rfl
      rw [hpa] at g0
      simp only [V_seq, V_skip, V_block, V_region, W_nil, W_cons, effOp2, KN_seq, effOp, effPure, pureV, lenV, strip, lkT, ISt.app, opI, gO, gB, allB, gval, wrapG, dstOK, setD, Op.operands, Call.operands, List.append_toArray, reduceIte, reduceCtorEq, Nat.reduceLT, Nat.reduceEqDiff, ne_eq, not_false_eq_true, true_and, and_self, implies_true, List.nil_append, List.cons_append, tab50, hN]
      refine V_loop (α := Nat) ⟨tabOK, mixed, gok_spec_UpperEnvelope, hok_spec_UpperEnvelope⟩ (by kernel_rfl) (fun k => k ≤ i ∧ ∀ j, k ≤ j → j < i → abvB (pA l (nAt ord j)) (pA l i) = true)
        (fun k => ⟨[(5, .num .i64 k), (4, .num .i64 i), (3, .ref 13 0 i true), (0, .sl 2 (encPs l))], [(13, some (.arr 1 3 (encN ord)))]⟩) (fun k => k) i id ⟨Nat.le_refl _, fun j h1 h2 => by omega⟩ (by simp [SLe, SLe0, convTm, convHp, convB, conv, conv0, lkT, lkH, clean]) ?_
      rintro k ⟨hki, hab⟩
      have fin : (0 < k → abvB (pA l (nAt ord (k - 1))) (pA l i) = false) → ((ord.take k ++ [i] ++ ord.drop k).map (pA l)).Pairwise leE := fun hf =>
        ins_pair hop (by omega) (fun j h1 h2 => abv_yes (hab j h1 (by omega))) (fun h0 => abv_no (hf h0))
      have hl1 : (ord.take k ++ [i] ++ ord.drop k).length = i + 1 := by simp; omega
      have hm1 : ∀ x, x ∈ ord.take k ++ [i] ++ ord.drop k ↔ x < i + 1 := fun x => by
        have : x ∈ ord ↔ x ∈ ord.take k ∨ x ∈ ord.drop k := by rw [← List.mem_append, List.take_append_drop]
        simp only [List.mem_append, List.mem_cons, List.not_mem_nil, or_false]
        have h3 := hom x
        rw [this] at h3
        constructor
        · rintro ((h | h) | h)
          · have := h3.1 (.inl h); omega
          · omega
          · have := h3.1 (.inr h); omega
        · intro h
          by_cases c : x = i
          · exact .inl (.inr c)
          · rcases h3.2 (by omega) with h | h
            · exact .inl (.inl h)
            · exact .inr h
      have lt1 : (ord.take k).length = k := by rw [List.length_take]; omega
      have l1 : (encN (ord.take k)).length = k := by rw [len_encN, lt1]
      have l3 : (encN (ord.drop k)).length = i - k := by rw [len_encN, List.length_drop, hol]
      have tt : List.take k (ord.take k) = ord.take k := by rw [List.take_take, Nat.min_self]
      have a1 : encN (ord.take k) ++ [IV.num .i64 ((i : Nat) : Int)] = encN (ord.take k ++ [i]) := by rw [encN_one, encN_app]
      have l2 : (encN (ord.take k ++ [i])).length = k + 1 := by rw [len_encN]; simp; omega
      have t2 : List.take (k + 1) (ord.take k ++ [i]) = ord.take k ++ [i] := List.take_of_length_le (by simp; omega)
      have a2 : encN (ord.take k ++ [i]) ++ encN (ord.drop k) = encN (ord.take k ++ [i] ++ ord.drop k) := encN_app _ _
      have td : List.take (i - k) (List.drop k ord) = List.drop k ord := List.take_of_length_le (by rw [List.length_drop]; omega)
      have tn : (encN ord).take i = encN ord := List.take_of_length_le (by omega)
      obtain ⟨O, hO⟩ : ∃ O, ord.take k ++ [i] ++ ord.drop k = O := ⟨_, rfl⟩
      rw [hO] at fin hl1 hm1 a2
      rcases Nat.eq_zero_or_pos k with hk0 | hk0
      · subst hk0
        have d0 : decide ((0 : Int) < ((0 : Nat) : Int)) = false := rfl
        have w1 : (IntKind.i64.wrap (((0 : Nat) : Int) - 1)).toNat = 0 := by decide
        obtain ⟨X, hX⟩ : ∃ X, (encN ord).getD 0 .junk = X := ⟨_, rfl⟩
        have hX2 : (i = 0 ∧ X = .junk) ∨ ∃ n : Nat, X = .num .i64 ((n : Nat) : Int) ∧ n < l.length := by
          rcases Nat.eq_zero_or_pos i with c | c
          · left
            have : ord = [] := List.length_eq_zero_iff.1 (by omega)
            subst this
            exact ⟨c, by rw [← hX]; rfl⟩
          · right
            refine ⟨nAt ord 0, by rw [← hX, getD_encN (by omega)], ?_⟩
            have : nAt ord 0 ∈ ord := by rw [nAt, List.getD, List.getElem?_eq_getElem (by omega)]; exact List.getElem_mem _
            have := (hom _).1 this; omega
        have hO0 : O = i :: ord := by rw [← hO]; simp
        rcases hX2 with ⟨c, rfl⟩ | ⟨n, rfl, hnl⟩
        · have hf := fin (fun h => absurd h (Nat.lt_irrefl 0))
          simp only [V_seq, V_exit, V_block, V_region, V_draw, V_cond, brW_false, drawW, pairsOf, W_nil, W_cons, WD_nil, WD_cons, effOp2, KN_seq, KN_block, KN_back, KXe_nil, KXe_seq, KXe_block, KXe_back, QE, asB, effOp, effPure, effPick, effNew, effBuildSlice, effFrz, frz, tmpsOf, effAppend, effZeros, skipE, pureV, pickV, srcV, refId, binV, partV, eltV, loadV, faddrV, iaddrV, sliceV, ofC, strip, lkT, lkH, ISt.app, opI, gO, gB, allB, gval, wrapG, dstOK, setD, mentTm, mentHp, IV.ment, partsL, eltsI, eltI, noId', Ideal.Fin, Op.operands, List.append_toArray, Array.append_empty, Option.toArray_none, Option.toArray_some, reduceIte, reduceCtorEq, cond_true, Bool.or_false, Nat.reduceAdd, Nat.reduceMul, Nat.reduceLT, Nat.reduceLeDiff, Nat.reduceEqDiff, Nat.reduceBEq, Nat.add_zero, Nat.zero_add, ne_eq, not_false_eq_true, true_and, and_true, false_and, and_false, and_self, false_implies, implies_true, forall_const, List.nil_append, List.cons_append, List.append_nil, Option.some.injEq, Option.map_some, Option.map_none, Option.bind_some, List.getElem?_cons_zero, List.getElem?_cons_succ, List.getD_cons_zero, List.getD_cons_succ, List.length_cons, List.length_nil, List.take_succ_cons, List.take_zero, List.take_nil, List.drop_succ_cons, List.drop_zero, bft, Bool.false_eq_true, tab3, tab50, tab57, tab66, hN, Int.toNat_natCast, el, eo, g0, d0, w1, hX, hw, Nat.sub_zero, tn]
          repeat refine And.intro (by first | omega | (simp; done) | (simp; omega)) ?_
          refine ⟨(i + 1, O), fun x => if x = 13 then 90 else x, ⟨by simp only []; omega, hl1, hm1, hf⟩, by simp only []; omega, ?_⟩
          simp [SLe, SLe0, convTm, convHp, convB, conv, conv0, lkT, lkH, clean]
          exact ⟨⟨by omega, by rw [hO0]; exact List.take_length.symm⟩, fun id a b c => by omega⟩
        · have g1 := getD_encPs hnl
          have hf := fin (fun h => absurd h (Nat.lt_irrefl 0))
          simp only [V_seq, V_exit, V_block, V_region, V_draw, V_cond, brW_false, drawW, pairsOf, W_nil, W_cons, WD_nil, WD_cons, effOp2, KN_seq, KN_block, KN_back, KXe_nil, KXe_seq, KXe_block, KXe_back, QE, asB, effOp, effPure, effPick, effNew, effBuildSlice, effFrz, frz, tmpsOf, effAppend, effZeros, skipE, pureV, pickV, srcV, refId, binV, partV, eltV, loadV, faddrV, iaddrV, sliceV, ofC, strip, lkT, lkH, ISt.app, opI, gO, gB, allB, gval, wrapG, dstOK, setD, mentTm, mentHp, IV.ment, partsL, eltsI, eltI, noId', Ideal.Fin, Op.operands, List.append_toArray, Array.append_empty, Option.toArray_none, Option.toArray_some, reduceIte, reduceCtorEq, cond_true, cond_false, Bool.or_false, Bool.false_and, Nat.reduceAdd, Nat.reduceMul, Nat.reduceLT, Nat.reduceLeDiff, Nat.reduceEqDiff, Nat.reduceBEq, Nat.add_zero, Nat.zero_add, ne_eq, not_false_eq_true, true_and, and_true, false_and, and_false, and_self, false_implies, implies_true, forall_const, List.nil_append, List.cons_append, List.append_nil, Option.some.injEq, Option.map_some, Option.map_none, Option.bind_some, List.getElem?_cons_zero, List.getElem?_cons_succ, List.getD_cons_zero, List.getD_cons_succ, List.length_cons, List.length_nil, List.take_succ_cons, List.take_zero, List.take_nil, List.drop_succ_cons, List.drop_zero, bft, Bool.false_eq_true, tab3, tab50, tab57, tab66, hN, Int.toNat_natCast, el, eo, g0, g1, d0, w1, hX, hw, Nat.sub_zero, tn]
          repeat refine And.intro (by first | omega | (simp; done) | (simp; omega)) ?_
          refine ⟨(i + 1, O), fun x => if x = 13 then 90 else x, ⟨by simp only []; omega, hl1, hm1, hf⟩, by simp only []; omega, ?_⟩
          simp [SLe, SLe0, convTm, convHp, convB, conv, conv0, lkT, lkH, clean]
          exact ⟨⟨by omega, by rw [hO0]; exact List.take_length.symm⟩, fun id a b c => by omega⟩
      · have d0 : decide ((0 : Int) < ((k : Nat) : Int)) = true := by simpa using hk0
        have w1 : IntKind.i64.wrap (((k : Nat) : Int) - 1) = ((k - 1 : Nat) : Int) := by rw [wr (by omega) (by omega)]; omega
        have g1 := getD_encN (L := ord) (i := k - 1) (by omega)
        have hnm : nAt ord (k - 1) ∈ ord := by rw [nAt, List.getD, List.getElem?_eq_getElem (by omega)]; exact List.getElem_mem _
        have hnl : nAt ord (k - 1) < l.length := by have := (hom _).1 hnm; omega
        have g2 := getD_encPs hnl
        have hpb : pAt l (nAt ord (k - 1)) = pA l (nAt ord (k - 1)) := rfl
        rw [hpb] at g2
        have hA : abvB (pA l (nAt ord (k - 1))) (pA l i) = (decide ((pA l i).1 < (pA l (nAt ord (k - 1))).1) || ((pA l (nAt ord (k - 1))).1 == (pA l i).1 && decide ((pA l (nAt ord (k - 1))).2 < (pA l i).2))) := rfl
        have hstep : abvB (pA l (nAt ord (k - 1))) (pA l i) = true → ∀ j, k - 1 ≤ j → j < i → abvB (pA l (nAt ord j)) (pA l i) = true := fun h j h1 h2 => by
          rcases Nat.lt_or_ge j k with c | c
          · rw [show j = k - 1 by omega]; exact h
          · exact hab j c h2
        generalize nAt ord (k - 1) = n at *
        obtain ⟨a, ha⟩ : ∃ a, pA l n = a := ⟨_, rfl⟩
        obtain ⟨p, hp⟩ : ∃ p, pA l i = p := ⟨_, rfl⟩
        rw [ha] at g2 hA fin hstep
        rw [hp] at g0 hA fin hstep
        cases c1 : decide (p.1 < a.1) with
        | true =>
          have hs := hstep (by rw [hA, c1]; rfl)
          simp only [V_seq, V_skip, V_block, V_region, V_draw, V_cond, brW_true, drawW, pairsOf, W_nil, W_cons, WD_nil, WD_cons, effOp2, KN_seq, KN_block, KN_back, asB, effOp, effPure, effPick, pureV, pickV, binV, partV, eltV, loadV, faddrV, iaddrV, ofC, strip, lkT, lkH, ISt.app, opI, gO, gB, allB, gval, wrapG, dstOK, setD, Op.operands, reduceIte, reduceCtorEq, cond_true, Bool.and_false, Bool.false_and, Nat.reduceAdd, Nat.reduceLT, Nat.reduceLeDiff, Nat.reduceEqDiff, Nat.add_zero, Nat.zero_add, ne_eq, not_false_eq_true, beq_self_eq_true, true_and, and_true, false_and, and_false, and_self, false_implies, implies_true, forall_const, List.nil_append, List.cons_append, Option.bind_some, List.getElem?_cons_zero, List.getElem?_cons_succ, List.getD_cons_zero, List.getD_cons_succ, List.length_cons, List.length_nil, List.take_succ_cons, List.take_zero, List.take_nil, List.drop_succ_cons, List.drop_zero, btf, Bool.true_eq_false, Bool.false_eq_true, tab3, tab50, tab57, tab66, hN, Int.toNat_natCast, el, eo, g0, g1, g2, d0, w1, c1]
          repeat refine And.intro (by first | omega | (simp; done) | (simp; omega)) ?_
          exact ⟨k - 1, id, ⟨by omega, fun j a b => by rw [hp]; exact hs j a b⟩, by simp only []; omega, by simp [SLe, SLe0, convTm, convHp, convB, conv, conv0, lkT, lkH, clean]⟩
        | false =>
          cases c2 : (a.1 == p.1) with
          | false =>
            have hf := fin (fun _ => by rw [hA, c1, c2]; rfl)
            simp only [V_seq, V_exit, V_block, V_region, V_draw, V_cond, brW_false, drawW, pairsOf, W_nil, W_cons, WD_nil, WD_cons, effOp2, KN_seq, KN_block, KN_back, KXe_nil, KXe_seq, KXe_block, KXe_back, QE, asB, effOp, effPure, effPick, effNew, effBuildSlice, effFrz, frz, tmpsOf, effAppend, effZeros, skipE, pureV, pickV, srcV, refId, binV, partV, eltV, loadV, faddrV, iaddrV, sliceV, ofC, strip, lkT, lkH, ISt.app, opI, gO, gB, allB, gval, wrapG, dstOK, setD, mentTm, mentHp, IV.ment, partsL, eltsI, eltI, noId', Ideal.Fin, Op.operands, List.append_toArray, Array.append_empty, Option.toArray_none, Option.toArray_some, reduceIte, reduceCtorEq, cond_true, cond_false, Bool.or_false, Bool.and_true, Bool.and_false, Nat.reduceAdd, Nat.reduceMul, Nat.reduceLT, Nat.reduceLeDiff, Nat.reduceEqDiff, Nat.reduceBEq, Nat.add_zero, Nat.zero_add, ne_eq, not_false_eq_true, beq_self_eq_true, true_and, and_true, false_and, and_false, and_self, false_implies, implies_true, forall_const, List.nil_append, List.cons_append, List.append_nil, Option.some.injEq, Option.map_some, Option.map_none, Option.bind_some, List.getElem?_cons_zero, List.getElem?_cons_succ, List.getD_cons_zero, List.getD_cons_succ, List.length_cons, List.length_nil, List.take_succ_cons, List.take_zero, List.take_nil, List.drop_succ_cons, List.drop_zero, bft, Bool.true_eq_false, Bool.false_eq_true, tab3, tab50, tab57, tab66, hN, Int.toNat_natCast, el, eo, g0, g1, g2, d0, w1, c1, c2, hw, encN_take, encN_drop, l1, l2, l3, tt, t2, a1, a2, td]
            repeat refine And.intro (by first | omega | (simp; done) | (simp; omega)) ?_
            refine ⟨(i + 1, O), fun x => if x = 13 then 90 else x, ⟨by simp only []; omega, hl1, hm1, hf⟩, by simp only []; omega, ?_⟩
            simp [SLe, SLe0, convTm, convHp, convB, conv, conv0, lkT, lkH, clean]
            exact ⟨by omega, fun id a b c => by omega⟩
          | true =>
            cases c3 : decide (a.2 < p.2) with
            | true =>
              have hs := hstep (by rw [hA, c1, c2, c3]; rfl)
              simp only [V_seq, V_skip, V_block, V_region, V_draw, V_cond, brW_true, drawW, pairsOf, W_nil, W_cons, WD_nil, WD_cons, effOp2, KN_seq, KN_block, KN_back, asB, effOp, effPure, effPick, pureV, pickV, binV, partV, eltV, loadV, faddrV, iaddrV, ofC, strip, lkT, lkH, ISt.app, opI, gO, gB, allB, gval, wrapG, dstOK, setD, Op.operands, reduceIte, reduceCtorEq, cond_true, cond_false, Bool.and_true, Nat.reduceAdd, Nat.reduceLT, Nat.reduceLeDiff, Nat.reduceEqDiff, Nat.add_zero, Nat.zero_add, ne_eq, not_false_eq_true, beq_self_eq_true, true_and, and_true, and_false, and_self, implies_true, forall_const, List.nil_append, List.cons_append, Option.bind_some, List.getElem?_cons_zero, List.getElem?_cons_succ, List.getD_cons_zero, List.getD_cons_succ, List.length_cons, List.length_nil, List.take_succ_cons, List.take_zero, List.take_nil, List.drop_succ_cons, List.drop_zero, Bool.true_eq_false, Bool.false_eq_true, tab3, tab50, tab57, tab66, hN, Int.toNat_natCast, el, eo, g0, g1, g2, d0, w1, c1, c2, c3]
              repeat refine And.intro (by first | omega | (simp; done) | (simp; omega)) ?_
              exact ⟨k - 1, id, ⟨by omega, fun j a b => by rw [hp]; exact hs j a b⟩, by simp only []; omega, by simp [SLe, SLe0, convTm, convHp, convB, conv, conv0, lkT, lkH, clean]⟩
            | false =>
              have hf := fin (fun _ => by rw [hA, c1, c2, c3]; rfl)
              simp only [V_seq, V_exit, V_block, V_region, V_draw, V_cond, brW_false, drawW, pairsOf, W_nil, W_cons, WD_nil, WD_cons, effOp2, KN_seq, KN_block, KN_back, KXe_nil, KXe_seq, KXe_block, KXe_back, QE, asB, effOp, effPure, effPick, effNew, effBuildSlice, effFrz, frz, tmpsOf, effAppend, effZeros, skipE, pureV, pickV, srcV, refId, binV, partV, eltV, loadV, faddrV, iaddrV, sliceV, ofC, strip, lkT, lkH, ISt.app, opI, gO, gB, allB, gval, wrapG, dstOK, setD, mentTm, mentHp, IV.ment, partsL, eltsI, eltI, noId', Ideal.Fin, Op.operands, List.append_toArray, Array.append_empty, Option.toArray_none, Option.toArray_some, reduceIte, reduceCtorEq, cond_true, cond_false, Bool.or_false, Bool.and_true, Nat.reduceAdd, Nat.reduceMul, Nat.reduceLT, Nat.reduceLeDiff, Nat.reduceEqDiff, Nat.reduceBEq, Nat.add_zero, Nat.zero_add, ne_eq, not_false_eq_true, beq_self_eq_true, true_and, and_true, and_false, and_self, implies_true, forall_const, List.nil_append, List.cons_append, List.append_nil, Option.some.injEq, Option.map_some, Option.map_none, Option.bind_some, List.getElem?_cons_zero, List.getElem?_cons_succ, List.getD_cons_zero, List.getD_cons_succ, List.length_cons, List.length_nil, List.take_succ_cons, List.take_zero, List.take_nil, List.drop_succ_cons, List.drop_zero, Bool.true_eq_false, Bool.false_eq_true, tab3, tab50, tab57, tab66, hN, Int.toNat_natCast, el, eo, g0, g1, g2, d0, w1, c1, c2, c3, hw, encN_take, encN_drop, l1, l2, l3, tt, t2, a1, a2, td]
              repeat refine And.intro (by first | omega | (simp; done) | (simp; omega)) ?_
              refine ⟨(i + 1, O), fun x => if x = 13 then 90 else x, ⟨by simp only []; omega, hl1, hm1, hf⟩, by simp only []; omega, ?_⟩
              simp [SLe, SLe0, convTm, convHp, convB, conv, conv0, lkT, lkH, clean]
              exact ⟨by omega, fun id a b c => by omega⟩
    · have hie : i = l.length := by simp at h; omega
      subst hie
      have hfs : ∀ j, j < l.length → ((ord.take (j + 1)).map (pA l)).foldl stepE [] = stepE (((ord.take j).map (pA l)).foldl stepE []) (pA l (nAt ord j)) := fun j hj => by
        rw [take_succ_g (d := 0) (by omega), List.map_append, List.foldl_append]; rfl
      have hlt : ∀ x ∈ ord, x < l.length := fun x hx => (hom x).1 hx
      have hin : ∀ x ∈ ord, in1 (pA l x) := fun x hx => okP_in1 (hok _ (pA_mem (hlt x hx)))
      simp only [V_seq, V_exit, V_block, V_region, W_nil, W_cons, effOp2, KN_seq, KXe_nil, KXe_seq, KXe_block, KXe_back, QE, effOp, effPure, effNew, effBuildSlice, effFrz, frz, tmpsOf, skipE, pureV, ofC, strip, lkT, ISt.app, opI, gO, gB, allB, gval, wrapG, dstOK, setD, mentTm, mentHp, IV.ment, partsL, eltsI, Ideal.Fin, Op.operands, reduceIte, reduceCtorEq, cond_true, Bool.or_false, Nat.reduceMul, Nat.reduceLT, Nat.reduceLeDiff, Nat.reduceEqDiff, Nat.reduceBEq, ne_eq, not_false_eq_true, true_and, and_self, implies_true, List.nil_append, List.cons_append, List.append_nil, List.length_nil, tab3, tab50, hN]
      refine V_loop (α := Nat × List Nat) ⟨tabOK, mixed, gok_spec_UpperEnvelope, hok_spec_UpperEnvelope⟩ (by kernel_rfl) (fun b => b.1 ≤ l.length ∧ b.2.map (pA l) = ((ord.take b.1).map (pA l)).foldl stepE [] ∧ (∀ x ∈ b.2, x ∈ ord) ∧ b.2.length ≤ b.1)
        (fun b => ⟨[(8, .num .i64 b.1), (7, .ref 91 0 b.2.length true), (3, .ref 13 0 l.length true), (0, .sl 2 (encPs l))], [(91, some (.arr 1 3 (encN b.2.reverse))), (13, some (.arr 1 3 (encN ord)))]⟩) (fun b => l.length - b.1) (0, []) id ⟨Nat.zero_le _, rfl, by simp, by simp⟩ (by simp [SLe, SLe0, convTm, convHp, convB, conv, conv0, lkT, lkH, clean, encN_nil]) ?_
      rintro ⟨i, st⟩ ⟨hi2, hst, hso, hsl⟩
      simp only [] at hi2 hst hso hsl
      have e91 := len_encN st.reverse
      rw [List.length_reverse] at e91
      have hx9 : ∃ k ty es, IBlk.arr 1 3 (encN st.reverse) = IBlk.arr k ty es := ⟨_, _, _, rfl⟩
      simp only [V_seq, V_region, V_cond, W_nil, W_cons, effOp2, KN_seq, asB, effOp, effPure, pureV, binV, lenV, strip, lkT, ISt.app, opI, gO, gB, allB, gval, wrapG, dstOK, setD, Op.operands, Call.operands, List.append_toArray, reduceIte, reduceCtorEq, Nat.reduceLT, Nat.reduceEqDiff, ne_eq, not_false_eq_true, true_and, and_self, implies_true, List.nil_append, List.cons_append, tab50, hN]
      refine brW_some (fun h => ?_) (fun h => ?_)
      · have hi' : i < l.length := by simpa using h
        have hw := wr_succ hi' (by rw [maxLen_eq]; omega)
        have g1 := getD_encN (L := ord) (i := i) (by omega)
        have hxm : nAt ord i ∈ ord := by rw [nAt, List.getD, List.getElem?_eq_getElem (by omega)]; exact List.getElem_mem _
        have hxl := hlt _ hxm
        have g2 := getD_encPs hxl
        have hfs2 := hfs i hi'
        have hpin := hin _ hxm
        have hpb : pAt l (nAt ord i) = pA l (nAt ord i) := rfl
        rw [hpb] at g2
        generalize nAt ord i = x at *
        obtain ⟨p, hp⟩ : ∃ p, pA l x = p := ⟨_, rfl⟩
        rw [hp] at g2 hfs2 hpin
        rw [← hst] at hfs2
        simp only [V_seq, V_skip, V_block, V_region, W_nil, W_cons, effOp2, KN_seq, effOp, effPure, effNew, effAlloc, effStore, skipE, pureV, storeV, partV, eltV, loadV, iaddrV, over, solid, IV.cells, strip, lkT, lkH, ISt.app, opI, gO, gB, allB, gval, wrapG, dstOK, setD, mentTm, mentHp, IV.ment, IV.mentL, oneI, Op.operands, reduceIte, reduceCtorEq, cond_true, Bool.or_false, Bool.and_true, Nat.reduceAdd, Nat.reduceLT, Nat.reduceLeDiff, Nat.reduceEqDiff, Nat.reduceBEq, Nat.zero_add, ne_eq, not_false_eq_true, true_and, and_true, and_false, and_self, implies_true, forall_const, List.nil_append, List.cons_append, List.append_nil, List.all_cons, List.all_nil, List.getD_cons_zero, List.length_cons, List.length_nil, List.take_succ_cons, List.take_zero, List.take_nil, List.drop_succ_cons, List.drop_zero, List.drop_nil, tab3, tab50, tab57, tab66, hN, Int.toNat_natCast, el, eo, g1, g2]
        refine ⟨⟨by omega, by omega⟩, by omega, ⟨by omega, by omega⟩, ?_⟩
        refine V_loop (α := List Nat) ⟨tabOK, mixed, gok_spec_UpperEnvelope, hok_spec_UpperEnvelope⟩ (by kernel_rfl) (fun s => popE (s.map (pA l)) p = popE (st.map (pA l)) p ∧ (∀ x ∈ s, x ∈ ord) ∧ s.length ≤ i)
          (fun s => ⟨[(9, .ptr 9 0), (8, .num .i64 i), (7, .ref 91 0 s.length true), (3, .ref 13 0 l.length true), (0, .sl 2 (encPs l))], [(91, some (.arr 1 3 (encN s.reverse))), (9, some (.box 66 [.num .i64 p.1, .num .i64 p.2])), (13, some (.arr 1 3 (encN ord)))]⟩) (fun s => s.length) st id ⟨rfl, hso, hsl⟩ (by simp [SLe, SLe0, convTm, convHp, convB, conv, conv0, convL, lkT, lkH, clean]) ?_
        rintro s ⟨hpop, hsm, hsl2⟩
        have hx9 : ∃ k ty es, IBlk.arr 1 3 (encN s.reverse) = IBlk.arr k ty es := ⟨_, _, _, rfl⟩
        have es := len_encN s.reverse
        rw [List.length_reverse] at es
        have hen : encN (x :: s).reverse = (encN s.reverse).take s.length ++ [IV.num .i64 ((x : Nat) : Int)] := by
          rw [List.reverse_cons, ← encN_app, List.take_of_length_le (by omega)]; rfl
        have hfin : popE (s.map (pA l)) p = s.map (pA l) → (x :: s).map (pA l) = ((ord.take (i + 1)).map (pA l)).foldl stepE [] ∧ ∀ y ∈ x :: s, y ∈ ord := fun h => by
          refine ⟨?_, fun y hy => ?_⟩
          · rw [hfs2, stepE, ← hpop, h, List.map_cons, hp]
          · rcases List.mem_cons.1 hy with rfl | hy
            · exact hxm
            · exact hsm y hy
        match s, hpop, hsm, hsl2, hx9, es, hen, hfin with
        | [], hpop, hsm, hsl2, hx9, es, hen, hfin =>
          obtain ⟨f1, f2⟩ := hfin rfl
          have d1 : decide ((0 : Int) < ((0 : Nat) : Int)) = false := rfl
          have d2 : decide ((1 : Int) < ((0 : Nat) : Int)) = false := rfl
          have n0 : encN ([] : List Nat).reverse = [] := rfl
          have n1 : ∀ k, ([] : List IV).getD k .junk = .junk := fun k => rfl
          simp only [List.length_nil] at hsl2 es hen
          rw [n0] at hx9 es hen
          simp only [V_seq, V_ret, V_exit, V_region, V_draw, V_cond, brW_false, drawW, WS_nil, pairsOf, W_nil, W_cons, effOp2, WI_nil, WI_cons, KN_seq, KN_block, KN_back, KXr_nil, KXe_nil, KXe_seq, KXe_block, KXe_back, QE, dynOK, indB, farB, freshB, heapy, asB, effOp, effPure, effPick, effNew, effBuildSlice, effFrz, frz, tmpsOf, effAppend, effZeros, effCall, giveUp, hasAll, skipE, pureV, pickV, srcV, refId, binV, partV, eltV, loadV, faddrV, iaddrV, lenV, ofC, strip, lkT, lkH, ISt.app, opI, gO, gB, allB, gval, wrapG, dstOK, setD, mentTm, mentHp, IV.ment, IV.mentL, partsL, eltsI, eltI, noId', lendV, lendP, lent, lentP, idsV, idsL, lkHS, flat, clean, callArgs, callFn, allLent, Gives, Ideal.Fin, conv, conv0, IBlk.shape, Op.operands, Call.operands, List.append_toArray, reduceIte, reduceCtorEq, cond_true, cond_false, Bool.or_false, Bool.or_true, Bool.and_true, Bool.and_false, Bool.and_eq_true, Bool.not_false, Nat.reduceAdd, Nat.reduceMul, Nat.reduceLT, Nat.reduceLeDiff, Nat.reduceEqDiff, Nat.reduceBEq, Nat.add_zero, Nat.zero_add, ne_eq, not_false_eq_true, beq_self_eq_true, true_and, and_true, false_and, and_false, and_self, false_implies, implies_true, forall_const, List.map_cons, List.map_nil, List.nil_append, List.cons_append, List.append_nil, Option.some.injEq, Option.map_some, Option.bind_some, List.getElem?_cons_zero, List.getElem?_cons_succ, List.getD_cons_zero, List.getD_cons_succ, List.length_cons, List.length_nil, List.take_succ_cons, List.take_zero, List.take_nil, List.drop_zero, ex_clo, bft, or_true, Bool.false_eq_true, tab3, tab50, tab66, hN, Int.toNat_natCast, lk_spec_UpperEnvelope_spec_hidden, sp_spec_hidden, eo, g1, d1, d2, n0, n1, hw]
          repeat refine And.intro (by first | omega | (simp; done) | (simp; omega)) ?_
          refine ⟨(i + 1, [x]), fun x => if x = 91 then 161 else x, ⟨by simp only []; omega, f1, f2, by simp⟩, by simp only []; omega, ?_⟩
          simp [SLe, SLe0, convTm, convHp, convB, conv, conv0, lkT, lkH, clean]
          exact ⟨List.take_length.symm, fun id a b c => by omega⟩
        | [b], hpop, hsm, hsl2, hx9, es, hen, hfin =>
          have d1 : decide ((0 : Int) < ((1 : Nat) : Int)) = true := rfl
          have d2 : decide ((1 : Int) < ((1 : Nat) : Int)) = false := rfl
          have n0 : encN [b].reverse = [.num .i64 ((b : Nat) : Int)] := rfl
          have n1 : (IntKind.i64.wrap (((1 : Nat) : Int) - 2)).toNat = 0 := by decide
          have n2 : IntKind.i64.wrap (((1 : Nat) : Int) - 1) = ((0 : Nat) : Int) := by decide
          have n3 : ([.num .i64 ((b : Nat) : Int)] : List IV).getD 0 .junk = .num .i64 ((b : Nat) : Int) := rfl
          have hbm := hsm b (by simp)
          have hbl := hlt b hbm
          have g3 := getD_encPs hbl
          have hpc : pAt l b = pA l b := rfl
          rw [hpc] at g3
          obtain ⟨B, hB⟩ : ∃ B, pA l b = B := ⟨_, rfl⟩
          rw [hB] at g3
          simp only [List.length_cons, List.length_nil] at hsl2 es hen
          rw [n0] at hx9 es hen
          cases c1 : (B.1 == p.1) with
          | true =>
            have hq : popE ([b].map (pA l)) p = [] := by
              simp only [List.map_cons, List.map_nil, hB, popE]; rw [if_pos (by simpa using c1)]
            simp only [V_seq, V_skip, V_block, V_region, V_draw, V_cond, brW_true, drawW, WS_nil, pairsOf, W_nil, W_cons, effOp2, WI_nil, WI_cons, KN_seq, KN_block, KN_back, dynOK, indB, farB, freshB, heapy, asB, effOp, effPure, effPick, effCall, giveUp, hasAll, pureV, pickV, binV, partV, eltV, loadV, faddrV, iaddrV, sliceV, lenV, ofC, strip, lkT, lkH, ISt.app, opI, gO, gB, allB, gval, wrapG, dstOK, setD, mentTm, mentHp, IV.ment, lendV, lendP, lent, lentP, idsV, idsL, lkHS, flat, clean, callArgs, callFn, allLent, IBlk.shape, Op.operands, Call.operands, List.append_toArray, Array.append_empty, Option.toArray_none, Option.toArray_some, reduceIte, reduceCtorEq, cond_true, cond_false, Bool.or_false, Bool.or_true, Bool.and_true, Bool.and_false, Bool.and_eq_true, Bool.not_false, Nat.reduceAdd, Nat.reduceLT, Nat.reduceLeDiff, Nat.reduceEqDiff, Nat.reduceBEq, Nat.add_zero, Nat.zero_add, ne_eq, not_false_eq_true, beq_self_eq_true, true_and, and_true, false_and, and_false, and_self, false_implies, implies_true, forall_const, List.map_cons, List.map_nil, List.nil_append, List.cons_append, List.append_nil, Option.map_some, Option.map_none, Option.bind_some, List.getElem?_cons_zero, List.getElem?_cons_succ, List.getD_cons_zero, List.getD_cons_succ, List.length_cons, List.length_nil, List.take_succ_cons, List.take_zero, List.take_nil, List.drop_zero, ex_clo, bft, btf, or_self, Bool.true_eq_false, Bool.false_eq_true, tab3, tab50, tab57, tab66, hN, pe, Int.toNat_natCast, lk_spec_UpperEnvelope_spec_hidden, sp_spec_hidden, el, g3, d1, d2, n0, n1, n2, n3, c1]
            repeat refine And.intro (by first | omega | (simp; done) | (simp; omega)) ?_
            refine ⟨[], id, ⟨by rw [← hpop, hq]; rfl, by simp, by simp⟩, by simp, ?_⟩
            simp [SLe, SLe0, convTm, convHp, convB, conv, conv0, convL, lkT, lkH, clean]
            rfl
          | false =>
            have hq : popE ([b].map (pA l)) p = [b].map (pA l) := by
              simp only [List.map_cons, List.map_nil, hB, popE]; rw [if_neg (by simpa using c1)]
            obtain ⟨f1, f2⟩ := hfin hq
            simp only [V_seq, V_ret, V_exit, V_region, V_draw, V_cond, brW_false, drawW, WS_nil, pairsOf, W_nil, W_cons, effOp2, WI_nil, WI_cons, KN_seq, KN_block, KN_back, KXr_nil, KXe_nil, KXe_seq, KXe_block, KXe_back, QE, dynOK, indB, farB, freshB, heapy, asB, effOp, effPure, effPick, effNew, effBuildSlice, effFrz, frz, tmpsOf, effAppend, effZeros, effCall, giveUp, hasAll, skipE, pureV, pickV, srcV, refId, binV, partV, eltV, loadV, faddrV, iaddrV, lenV, ofC, strip, lkT, lkH, ISt.app, opI, gO, gB, allB, gval, wrapG, dstOK, setD, mentTm, mentHp, IV.ment, IV.mentL, partsL, eltsI, eltI, noId', lendV, lendP, lent, lentP, idsV, idsL, lkHS, flat, clean, callArgs, callFn, allLent, Gives, Ideal.Fin, conv, conv0, IBlk.shape, Op.operands, Call.operands, List.append_toArray, reduceIte, reduceCtorEq, cond_true, cond_false, Bool.or_false, Bool.or_true, Bool.and_true, Bool.and_false, Bool.and_eq_true, Bool.not_false, Nat.reduceAdd, Nat.reduceMul, Nat.reduceLT, Nat.reduceLeDiff, Nat.reduceEqDiff, Nat.reduceBEq, Nat.add_zero, Nat.zero_add, ne_eq, not_false_eq_true, beq_self_eq_true, true_and, and_true, false_and, and_false, and_self, false_implies, implies_true, forall_const, List.map_cons, List.map_nil, List.nil_append, List.cons_append, List.append_nil, Option.some.injEq, Option.map_some, Option.bind_some, List.getElem?_cons_zero, List.getElem?_cons_succ, List.getD_cons_zero, List.getD_cons_succ, List.length_cons, List.length_nil, List.take_succ_cons, List.take_zero, List.take_nil, List.drop_zero, ex_clo, bft, or_self, Bool.true_eq_false, Bool.false_eq_true, tab3, tab50, tab57, tab66, hN, pe, Int.toNat_natCast, lk_spec_UpperEnvelope_spec_hidden, sp_spec_hidden, el, eo, g1, g3, d1, d2, n0, n1, n2, n3, c1, hw]
            repeat refine And.intro (by first | omega | (simp; done) | (simp; omega)) ?_
            refine ⟨(i + 1, [x, b]), fun x => if x = 91 then 161 else x, ⟨by simp only []; omega, f1, f2, by simp; omega⟩, by simp only []; omega, ?_⟩
            simp [SLe, SLe0, convTm, convHp, convB, conv, conv0, lkT, lkH, clean]
            exact ⟨List.take_length.symm, fun id a b c => by omega⟩
        | b :: a :: r, hpop, hsm, hsl2, hx9, es, hen, hfin =>
          simp only [List.length_cons] at hsl2 es hen
          have d1 : decide ((0 : Int) < ((r.length + 1 + 1 : Nat) : Int)) = true := by simp only [decide_eq_true_eq]; omega
          have d2 : decide ((1 : Int) < ((r.length + 1 + 1 : Nat) : Int)) = true := by simp only [decide_eq_true_eq]; omega
          have w2 : IntKind.i64.wrap (((r.length + 1 + 1 : Nat) : Int) - 2) = ((r.length : Nat) : Int) := by rw [wr (by omega) (by omega)]; omega
          have w1 : IntKind.i64.wrap (((r.length + 1 + 1 : Nat) : Int) - 1) = ((r.length + 1 : Nat) : Int) := by rw [wr (by omega) (by omega)]; omega
          have g3 := getD_encN (L := (b :: a :: r).reverse) (i := r.length) (by simp)
          have g4 := getD_encN (L := (b :: a :: r).reverse) (i := r.length + 1) (by simp)
          rw [nat_rev1] at g3
          rw [nat_rev2] at g4
          have hbm := hsm b (by simp)
          have ham := hsm a (by simp)
          have hbl := hlt b hbm
          have hal := hlt a ham
          have g5 := getD_encPs hbl
          have g6 := getD_encPs hal
          have ib := hin b hbm
          have ia := hin a ham
          have hpc : pAt l b = pA l b := rfl
          have hpd : pAt l a = pA l a := rfl
          rw [hpc] at g5
          rw [hpd] at g6
          obtain ⟨B, hB⟩ : ∃ B, pA l b = B := ⟨_, rfl⟩
          obtain ⟨A, hA⟩ : ∃ A, pA l a = A := ⟨_, rfl⟩
          rw [hB] at g5 ib
          rw [hA] at g6 ia
          have hP : popE ((b :: a :: r).map (pA l)) p = if B.1 = p.1 ∨ turn A B p ≤ 0 then popE ((a :: r).map (pA l)) p else (b :: a :: r).map (pA l) := by
            simp only [List.map_cons, hB, hA, popE]
          have hrev : (encN (b :: a :: r).reverse).take (r.length + 1) = encN (a :: r).reverse := by
            rw [encN_take]; congr 1
            rw [List.reverse_cons]
            rw [List.take_append_of_le_length (by simp), List.take_of_length_le (by simp)]
          cases c1 : (B.1 == p.1) with
          | true =>
            rw [if_pos (.inl (by simpa using c1))] at hP
            simp only [V_seq, V_skip, V_block, V_region, V_draw, V_cond, brW_true, drawW, WS_nil, pairsOf, W_nil, W_cons, effOp2, WI_nil, WI_cons, KN_seq, KN_block, KN_back, dynOK, indB, farB, freshB, heapy, asB, effOp, effPure, effPick, effCall, giveUp, hasAll, pureV, pickV, binV, partV, eltV, loadV, faddrV, iaddrV, sliceV, lenV, ofC, strip, lkT, lkH, ISt.app, opI, gO, gB, allB, gval, wrapG, dstOK, setD, mentTm, mentHp, IV.ment, lendV, lendP, lent, lentP, idsV, idsL, lkHS, flat, clean, callArgs, callFn, allLent, IBlk.shape, Op.operands, Call.operands, List.append_toArray, Array.append_empty, Option.toArray_none, Option.toArray_some, reduceIte, reduceCtorEq, cond_true, cond_false, Bool.or_false, Bool.or_true, Bool.and_true, Bool.and_eq_true, Bool.not_false, Nat.reduceAdd, Nat.reduceLT, Nat.reduceLeDiff, Nat.reduceEqDiff, Nat.reduceBEq, Nat.add_zero, Nat.zero_add, ne_eq, not_false_eq_true, beq_self_eq_true, true_and, and_true, false_and, and_false, and_self, false_implies, implies_true, forall_const, List.map_cons, List.map_nil, List.nil_append, List.cons_append, List.append_nil, Option.map_some, Option.map_none, Option.bind_some, List.getElem?_cons_zero, List.getElem?_cons_succ, List.getD_cons_zero, List.getD_cons_succ, List.length_cons, List.length_nil, List.take_succ_cons, List.take_zero, List.take_nil, List.drop_zero, ex_clo, btf, or_self, Bool.true_eq_false, Bool.false_eq_true, tab3, tab50, tab57, tab66, hN, pe, Int.toNat_natCast, lk_spec_UpperEnvelope_spec_hidden, sp_spec_hidden, el, g3, g4, g5, g6, ia, ib, hpin, d1, d2, w1, w2, c1]
            repeat refine And.intro (by first | omega | (simp; done) | (simp; omega)) ?_
            refine ⟨a :: r, id, ⟨by rw [← hpop, hP], fun y hy => hsm y (List.mem_cons_of_mem _ hy), by simp only [List.length_cons]; omega⟩, by simp only [List.length_cons]; omega, ?_⟩
            simp only [SLe, SLe0, convTm, convHp, convB, conv, conv0, lkT, lkH, clean, List.length_cons]
            simp
            refine ⟨?_, by simp [convL, conv, conv0, clean]⟩
            rw [len_encN, encN_take]
            congr 1
            rw [show r.reverse ++ [a, b] = (r.reverse ++ [a]) ++ [b] by simp, List.take_left]
          | false =>
            have c1' : ¬ B.1 = p.1 := by simpa using c1
            cases c2 : decide (turn A B p ≤ 0) with
            | true =>
              rw [if_pos (.inr (of_decide_eq_true c2))] at hP
              simp only [V_seq, V_skip, V_block, V_region, V_draw, V_cond, brW_true, drawW, WS_nil, pairsOf, W_nil, W_cons, effOp2, WI_nil, WI_cons, KN_seq, KN_block, KN_back, dynOK, indB, farB, freshB, heapy, asB, effOp, effPure, effPick, effCall, giveUp, hasAll, pureV, pickV, binV, partV, eltV, loadV, faddrV, iaddrV, sliceV, lenV, ofC, strip, lkT, lkH, ISt.app, opI, gO, gB, allB, gval, wrapG, dstOK, setD, mentTm, mentHp, IV.ment, lendV, lendP, lent, lentP, idsV, idsL, lkHS, flat, clean, callArgs, callFn, allLent, IBlk.shape, Op.operands, Call.operands, List.append_toArray, Array.append_empty, Option.toArray_none, Option.toArray_some, reduceIte, reduceCtorEq, cond_true, cond_false, Bool.or_false, Bool.and_true, Bool.and_eq_true, Bool.not_true, Bool.not_false, Nat.reduceAdd, Nat.reduceLT, Nat.reduceLeDiff, Nat.reduceEqDiff, Nat.reduceBEq, Nat.add_zero, Nat.zero_add, ne_eq, not_false_eq_true, beq_self_eq_true, true_and, and_true, and_false, and_self, implies_true, forall_const, List.map_cons, List.map_nil, List.nil_append, List.cons_append, List.append_nil, Option.map_some, Option.map_none, Option.bind_some, List.getElem?_cons_zero, List.getElem?_cons_succ, List.getD_cons_zero, List.getD_cons_succ, List.length_cons, List.length_nil, List.take_succ_cons, List.take_zero, List.take_nil, List.drop_zero, ex_clo, or_self, Bool.true_eq_false, Bool.false_eq_true, tab3, tab50, tab57, tab66, hN, pe, Int.toNat_natCast, lk_spec_UpperEnvelope_spec_hidden, sp_spec_hidden, el, g3, g4, g5, g6, ia, ib, hpin, d1, d2, w1, w2, c1, c2]
              repeat refine And.intro (by first | omega | (simp; done) | (simp; omega)) ?_
              refine ⟨a :: r, id, ⟨by rw [← hpop, hP], fun y hy => hsm y (List.mem_cons_of_mem _ hy), by simp only [List.length_cons]; omega⟩, by simp only [List.length_cons]; omega, ?_⟩
              simp only [SLe, SLe0, convTm, convHp, convB, conv, conv0, lkT, lkH, clean, List.length_cons]
              simp
              refine ⟨?_, by simp [convL, conv, conv0, clean]⟩
              rw [len_encN, encN_take]
              congr 1
              rw [show r.reverse ++ [a, b] = (r.reverse ++ [a]) ++ [b] by simp, List.take_left]
            | false =>
              rw [if_neg (fun q => q.elim c1' (fun q => by have := of_decide_eq_false c2; omega))] at hP
              obtain ⟨f1, f2⟩ := hfin hP
              simp only [V_seq, V_ret, V_exit, V_region, V_draw, V_cond, brW_false, drawW, WS_nil, pairsOf, W_nil, W_cons, effOp2, WI_nil, WI_cons, KN_seq, KN_block, KN_back, KXr_nil, KXe_nil, KXe_seq, KXe_block, KXe_back, QE, dynOK, indB, farB, freshB, heapy, asB, effOp, effPure, effPick, effNew, effBuildSlice, effFrz, frz, tmpsOf, effAppend, effZeros, effCall, giveUp, hasAll, skipE, pureV, pickV, srcV, refId, binV, partV, eltV, loadV, faddrV, iaddrV, lenV, ofC, strip, lkT, lkH, ISt.app, opI, gO, gB, allB, gval, wrapG, dstOK, setD, mentTm, mentHp, IV.ment, IV.mentL, partsL, eltsI, eltI, noId', lendV, lendP, lent, lentP, idsV, idsL, lkHS, flat, clean, callArgs, callFn, allLent, Gives, Ideal.Fin, conv, conv0, IBlk.shape, Op.operands, Call.operands, List.append_toArray, reduceIte, reduceCtorEq, cond_true, cond_false, Bool.or_false, Bool.and_true, Bool.and_eq_true, Bool.not_true, Bool.not_false, Nat.reduceAdd, Nat.reduceMul, Nat.reduceLT, Nat.reduceLeDiff, Nat.reduceEqDiff, Nat.reduceBEq, Nat.add_zero, Nat.zero_add, ne_eq, not_false_eq_true, beq_self_eq_true, true_and, and_true, and_false, and_self, implies_true, forall_const, List.map_cons, List.map_nil, List.nil_append, List.cons_append, List.append_nil, Option.some.injEq, Option.map_some, Option.bind_some, List.getElem?_cons_zero, List.getElem?_cons_succ, List.getD_cons_zero, List.getD_cons_succ, List.length_cons, List.length_nil, List.take_succ_cons, List.take_zero, List.take_nil, List.drop_zero, ex_clo, or_self, Bool.true_eq_false, Bool.false_eq_true, tab3, tab50, tab57, tab66, hN, pe, Int.toNat_natCast, lk_spec_UpperEnvelope_spec_hidden, sp_spec_hidden, el, eo, g1, g3, g4, g5, g6, ia, ib, hpin, d1, d2, w1, w2, c1, c2, hw, es]
              repeat refine And.intro (by first | omega | (simp; done) | (simp; omega)) ?_
              refine ⟨(i + 1, x :: b :: a :: r), fun x => if x = 91 then 161 else x, ⟨by simp only []; omega, f1, f2, by simp only [List.length_cons]; omega⟩, by simp only []; omega, ?_⟩
              simp only [SLe, SLe0, convTm, convHp, convB, conv, conv0, lkT, lkH, clean, List.length_cons, hen]
              simp
              exact ⟨(List.take_of_length_le (by rw [List.length_append, List.length_take]; exact Nat.le_refl _)).symm, fun id a b c => by omega⟩
      · have hie : i = l.length := by simp at h; omega
        subst hie
        rw [List.take_of_length_le (by omega)] at hst
        have hv := env_eq hnd hom hop hst hso
        have hel : (envP l).length = st.length := by rw [← hv, List.length_reverse]
        simp only [V_seq, V_ret, V_exit, V_region, W_nil, W_cons, effOp2, KN_seq, KXr_nil, KXe_nil, KXe_seq, KXe_block, KXe_back, QE, effOp, effPure, pureV, strip, lkT, lkH, ISt.app, opI, gO, gB, allB, gval, wrapG, dstOK, setD, Gives, Ideal.Fin, conv, conv0, Op.operands, reduceIte, reduceCtorEq, Nat.reduceLT, Nat.reduceEqDiff, Nat.zero_add, ne_eq, true_and, and_self, implies_true, List.nil_append, List.cons_append, Option.some.injEq, List.drop_zero, hN, hv, ← hel]
        exact ⟨_, _, rfl, by rw [len_encN]; exact Nat.le_refl _, (take_encN _).symm, by simp⟩
def sp_spec_UpperEnvelope : PSpec := ⟨fun xs => match xs with | [.sl 2 les] => isPs les | _ => False, fun xs => match xs with | [.sl _ les] => (fun (l : List Pt) => .sl 1 (encN (envV l))) (toPs les) | _ => .junk, false⟩
theorem gk_spec_UpperEnvelope : ∀ args, sp_spec_UpperEnvelope.pre args → ICall Try.prog 34 args (sp_spec_UpperEnvelope.val args) := by
  intro args h
  unfold sp_spec_UpperEnvelope at h ⊢; simp only at h ⊢; split at h
  · have h0 := h
    obtain ⟨l0, rfl⟩ := isP_ex h0
    simp only [toPs_enc] at *
    exact c_spec_UpperEnvelope _ 
  · exact h.elim
theorem en_spec_UpperEnvelope : Enters Try.prog 34 := enters_of Try.func34 (by kernel_rfl) rfl

end Go.Proofs.Ytjlcbomigbolcaa
