/- The exact law on diagonals: the walk. -/
import Derived.Test.YtlcndghaendieaaB92
set_option linter.unusedVariables false
set_option linter.unusedSimpArgs false
set_option maxHeartbeats 16000000
set_option maxRecDepth 100000
namespace Go.Proofs.Ytlcndghaendieaa
open Go Go.Ideal Go.Pl Go.Sort

theorem edges_edgs (l : List Pt) : edgesP l = edgs l := rfl
theorem area_sum (l : List Pt) : areaP l = sumN l l.length := by
  have : ∀ i, areaN l i = sumN l i := by
    intro i
    induction i with
    | zero => rfl
    | succ i ih => rw [areaN, sumN, ih]; rfl
  exact this _
theorem dbl_sm {l : List Pt} (hk : okPs l = true) : SmL (dblP l) := by
  intro p hp
  obtain ⟨q, hq, rfl⟩ := List.mem_map.1 hp
  simp only [okPs, Bool.and_eq_true, List.all_eq_true] at hk
  have := hk.1 q hq
  simp only [okP, inR, Bool.and_eq_true, decide_eq_true_eq] at this
  unfold Sm sm1 dbl
  simp only
  omega
theorem sum_sm {l : List Pt} (hk : okPs l = true) (i k : Nat) : Sm ((pAt l i).1 + (pAt l k).1, (pAt l i).2 + (pAt l k).2) := by
  have h : ∀ j, -1000 ≤ (pAt l j).1 ∧ (pAt l j).1 ≤ 1000 ∧ -1000 ≤ (pAt l j).2 ∧ (pAt l j).2 ≤ 1000 := by
    intro j
    simp only [okPs, Bool.and_eq_true, List.all_eq_true] at hk
    rcases Nat.lt_or_ge j l.length with c | c
    · have := hk.1 _ (show pAt l j ∈ l by rw [pAt, List.getD, List.getElem?_eq_getElem c]; exact List.getElem_mem c)
      simp only [okP, inR, Bool.and_eq_true, decide_eq_true_eq] at this
      omega
    · have : pAt l j = (0, 0) := by rw [pAt, List.getD, List.getElem?_eq_none c]; rfl
      rw [this]; omega
  have h1 := h i
  have h2 := h k
  unfold Sm sm1
  simp only
  omega
/-- Are the vertices the same or neighbours? -/
def nearD (n i k : Nat) : Bool := decide (k = i) || (decide ((i + 1) % n = k) || decide ((k + 1) % n = i))
def dI (n i k : Nat) : Nat := (k + n - i) % n
theorem dI_near {n i k : Nat} (hi : i < n) (hk : k < n) (h3 : 3 ≤ n) : (decide (((dI n i k : Nat) : Int) < 2) || decide (((n : Int) - 2) < ((dI n i k : Nat) : Int))) = nearD n i k := by
  unfold dI nearD
  have e1 : (k + n - i) % n = if i ≤ k then k - i else k + n - i := by
    split
    · rw [show k + n - i = (k - i) + n by omega, Nat.add_mod_right, Nat.mod_eq_of_lt (by omega)]
    · exact Nat.mod_eq_of_lt (by omega)
  have e2 : (i + 1) % n = if i + 1 = n then 0 else i + 1 := mod_one hi
  have e3 : (k + 1) % n = if k + 1 = n then 0 else k + 1 := mod_one hk
  rw [e1, e2, e3, ← Bool.decide_or, ← Bool.decide_or, ← Bool.decide_or]
  refine decide_eq_decide.2 ?_
  split <;> split <;> split <;> omega
/-- Is the segment between two vertices a diagonal? As the program and as the reference asks. -/
def diagI (l : List Pt) (i k : Nat) : Bool := !nearD l.length i k && (((List.range l.length).all fun m => okIm l i k m) && (locR ((pAt l i).1 + (pAt l k).1, (pAt l i).2 + (pAt l k).2) (edgesP (dblP l)) false == 1))
def inA (l : List Pt) (i k : Nat) : Bool := if areaP l < 0 then coneP (pAt l ((i + 1) % l.length)) (pAt l i) (pAt l ((i + l.length - 1) % l.length)) (pAt l k) else coneP (pAt l ((i + l.length - 1) % l.length)) (pAt l i) (pAt l ((i + 1) % l.length)) (pAt l k)
def diagS (l : List Pt) (i k : Nat) : Bool := !nearD l.length i k && (((List.range l.length).all fun m => okSp l i k m) && inA l i k)
theorem simp_pairs {l : List Pt} (hs : simpB l = true) : pairsP l = true := by
  simp only [simpB, Bool.and_eq_true] at hs; exact hs.2
theorem diag_eq {l : List Pt} (hs : simpB l = true) {i k : Nat} (hi : i < l.length) (hk : k < l.length) : diagI l i k = diagS l i k := by
  obtain ⟨f1, f2, f3, f4⟩ := ring_facts (simp_ring hs)
  have hp := simp_pairs hs
  unfold diagI diagS
  cases hn : nearD l.length i k with
  | true => rfl
  | false =>
    simp only [nearD, Bool.or_eq_false_iff, decide_eq_false_iff_not] at hn
    obtain ⟨n1, n2, n3⟩ := hn
    have e : ((List.range l.length).all fun m => okIm l i k m) = ((List.range l.length).all fun m => okSp l i k m) := by
      rw [Bool.eq_iff_iff, List.all_eq_true, List.all_eq_true]
      constructor
      · intro h m hm
        rw [← ok_diag f4 f2 hp hi hk n1 (fun e => n2 e.symm) n3 (List.mem_range.1 hm)]
        exact h m hm
      · intro h m hm
        rw [ok_diag f4 f2 hp hi hk n1 (fun e => n2 e.symm) n3 (List.mem_range.1 hm)]
        exact h m hm
    rw [e]
    cases ha : ((List.range l.length).all fun m => okSp l i k m) with
    | false => rfl
    | true =>
      have := diag_same f4 f2 hp hi hk n1 (fun e => n2 e.symm) n3 ha
      rw [← area_sum, ← edges_edgs] at this
      have e2 : (locR ((pAt l i).1 + (pAt l k).1, (pAt l i).2 + (pAt l k).2) (edgesP (dblP l)) false == 1) = inA l i k := by
        rw [this]
        unfold inA
        cases (if areaP l < 0 then coneP (pA l ((i + 1) % l.length)) (pA l i) (pA l ((i + l.length - 1) % l.length)) (pA l k) else coneP (pA l ((i + l.length - 1) % l.length)) (pA l i) (pA l ((i + 1) % l.length)) (pA l k)) <;> rfl
      rw [e2]

/-! the program -/
theorem all_no {n m : Nat} {f : Nat → Bool} (hm : m < n) (h : f m = false) : (List.range n).all f = false := by
  cases ha : (List.range n).all f with
  | false => rfl
  | true =>
    rw [List.all_eq_true] at ha
    rw [ha m (List.mem_range.2 hm)] at h; cases h
theorem all_yes {n : Nat} {f : Nat → Bool} (h : ∀ m, m < n → f m = true) : (List.range n).all f = true := by
  rw [List.all_eq_true]; exact fun m hm => h m (List.mem_range.1 hm)
def g_impl_diagonal : List (Nat × PSpec) := [(83, sp_impl_edges_v), (42, sp_impl_common), (94, sp_impl_Segment_isEnd), (43, sp_impl_relation), (101, sp_impl_twice_v), (102, sp_impl_Point_plus), (100, sp_impl_locate)]
theorem gok_impl_diagonal : GOK Try.prog g_impl_diagonal := gok_consO gk_impl_edges_v en_impl_edges_v (gok_cons gk_impl_common en_impl_common (gok_cons gk_impl_Segment_isEnd en_impl_Segment_isEnd (gok_cons gk_impl_relation en_impl_relation (gok_consO gk_impl_twice_v en_impl_twice_v (gok_cons gk_impl_Point_plus en_impl_Point_plus (gok_cons gk_impl_locate en_impl_locate (gok0)))))))
theorem lk_impl_diagonal_impl_edges_v : lkG g_impl_diagonal 83 = sp_impl_edges_v := rfl
theorem lk_impl_diagonal_impl_common : lkG g_impl_diagonal 42 = sp_impl_common := rfl
theorem lk_impl_diagonal_impl_Segment_isEnd : lkG g_impl_diagonal 94 = sp_impl_Segment_isEnd := rfl
theorem lk_impl_diagonal_impl_relation : lkG g_impl_diagonal 43 = sp_impl_relation := rfl
theorem lk_impl_diagonal_impl_twice_v : lkG g_impl_diagonal 101 = sp_impl_twice_v := rfl
theorem lk_impl_diagonal_impl_Point_plus : lkG g_impl_diagonal 102 = sp_impl_Point_plus := rfl
theorem lk_impl_diagonal_impl_locate : lkG g_impl_diagonal 100 = sp_impl_locate := rfl
def h_impl_diagonal : List (Nat × HSpec) := []
theorem hok_impl_diagonal : HOK Try.prog h_impl_diagonal := hok0
theorem c_impl_diagonal (l : List Pt) (a : Int) (b : Int) (hs : simpB l = true) (ha0 : 0 ≤ a) (ha1 : a < l.length) (hb0 : 0 ≤ b) (hb1 : b < l.length) : ICall Try.prog 54 [.sl 2 (encPs l), .num .i64 a, .num .i64 b] (.bool (diagI l a.toNat b.toNat)) := by
  refine icall_V (G := g_impl_diagonal) (H := []) [(5, [(0, 9), (1, 9), (2, 9), (3, 9), (4, 9), (5, 9), (6, 9), (7, 9), (8, 9)]), (16, [(1, 2), (1, 3), (1, 4), (1, 5), (1, 6), (1, 7), (1, 8), (1, 9), (0, 10), (2, 10), (3, 10), (4, 10), (6, 10), (7, 10), (8, 10), (0, 11), (2, 11), (3, 11), (4, 11), (5, 11), (6, 11), (7, 11), (8, 11), (9, 11), (1, 12), (10, 12)])] tabOK mixed gok_impl_diagonal hok_impl_diagonal Try.func54 rfl Try.ntmps54 Try.results54 rfl (by kernel_rfl) fun F hN hlen => ?_
  obtain ⟨i, rfl⟩ : ∃ i : Nat, a = i := ⟨a.toNat, by omega⟩
  obtain ⟨k, rfl⟩ : ∃ k : Nat, b = k := ⟨b.toNat, by omega⟩
  have hi : i < l.length := by omega
  have hk : k < l.length := by omega
  obtain ⟨f1, f2, f3, f4⟩ := ring_facts (simp_ring hs)
  have hm := okPs_sm f1
  have el := len_encPs l
  have hz : l.length ≤ 1000000 := by omega
  have ee : (edgesP l).length = l.length := by rw [edgesP, edgesN_len]
  have eq : (encQs (edgesP l)).length = l.length := by rw [len_encQs, ee]
  have w1 : IntKind.i64.wrap ((k : Int) - (i : Int)) = (k : Int) - (i : Int) := wr (by omega) (by omega)
  have w2 : IntKind.i64.wrap ((k : Int) - (i : Int) + (l.length : Int)) = ((k + l.length - i : Nat) : Int) := by rw [wr (by omega) (by omega)]; omega
  have t1 : ((k + l.length - i : Nat) : Int).tmod (l.length : Int) = ((dI l.length i k : Nat) : Int) := by rw [Int.tmod_eq_emod_of_nonneg (by omega)]; simp [dI]
  have w3 : IntKind.i64.wrap ((l.length : Int) - 2) = (l.length : Int) - 2 := wr (by omega) (by omega)
  have d5 : ((l.length : Int) == 0) = false := by rw [beq_eq_false_iff_ne]; omega
  have hd := dI_near hi hk f2
  have ti : Int.toNat (i : Int) = i := Int.toNat_natCast i
  have tk : Int.toNat (k : Int) = k := Int.toNat_natCast k
  have hv : diagI l i k = (!nearD l.length i k && (((List.range l.length).all fun m => okIm l i k m) && (locR ((pAt l i).1 + (pAt l k).1, (pAt l i).2 + (pAt l k).2) (edgesP (dblP l)) false == 1))) := rfl
  have gi := getD_encPs hi
  have gk := getD_encPs hk
  cases c1 : decide (((dI l.length i k : Nat) : Int) < 2) with
  | true =>
    rw [c1, Bool.true_or] at hd
    rw [← hd] at hv
    simp only [V_seq, V_ret, V_region, V_cond, brW_true, W_nil, W_cons, effOp2, KN_seq, KXr_nil, KXr_seq, QE, asB, effOp, effPure, effPick, pureV, pickV, binV, lenV, ofC, strip, lkT, lkH, ISt.app, opI, gO, gB, allB, gval, wrapG, dstOK, setD, clean, enumT, Gives, Ideal.Fin, conv, conv0, Op.operands, Call.operands, List.append_toArray, reduceIte, reduceCtorEq, cond_true, Bool.false_and, Bool.not_true, Nat.reduceAdd, Nat.reduceLT, Nat.reduceEqDiff, Nat.zero_add, ne_eq, not_false_eq_true, true_and, and_true, and_self, false_implies, implies_true, forall_const, List.nil_append, List.cons_append, List.append_nil, Option.bind_some, List.getElem?_cons_zero, List.getElem?_cons_succ, btf, Bool.true_eq_false, Bool.false_eq_true, tab23, hN, el, w1, w2, t1, w3, ti, tk, c1, hv]
    try omega
  | false =>
    cases c2 : decide (((l.length : Int) - 2) < ((dI l.length i k : Nat) : Int)) with
    | true =>
      rw [c1, c2, Bool.false_or] at hd
      rw [← hd] at hv
      simp only [V_seq, V_ret, V_region, V_cond, brW_true, W_nil, W_cons, effOp2, KN_seq, KXr_nil, KXr_seq, QE, asB, effOp, effPure, effPick, pureV, pickV, binV, lenV, ofC, strip, lkT, lkH, ISt.app, opI, gO, gB, allB, gval, wrapG, dstOK, setD, clean, enumT, Gives, Ideal.Fin, conv, conv0, Op.operands, Call.operands, List.append_toArray, reduceIte, reduceCtorEq, cond_false, Bool.false_and, Bool.not_true, Nat.reduceAdd, Nat.reduceLT, Nat.reduceEqDiff, Nat.zero_add, ne_eq, not_false_eq_true, beq_self_eq_true, true_and, and_true, and_self, implies_true, forall_const, List.nil_append, List.cons_append, List.append_nil, Option.bind_some, List.getElem?_cons_zero, List.getElem?_cons_succ, Bool.false_eq_true, tab23, hN, el, w1, w2, t1, w3, ti, tk, c1, c2, hv]
      try omega
    | false =>
      rw [c1, c2, Bool.false_or] at hd
      rw [← hd, Bool.not_false, Bool.true_and] at hv
      have hnk : k ≠ i := by
        intro e
        simp only [nearD] at hd
        have := hd.symm
        simp [e] at this
      have ns : (pAt l i, pAt l k).1 ≠ (pAt l i, pAt l k).2 := fun e => hnk (pA_inj f4 hk hi e.symm)
      have sq : SmQ (pAt l i, pAt l k) := ⟨hm.at i, hm.at k⟩
      have sd := dbl_sm f1
      have sp := sum_sm f1 i k
      have hz2 : (dblP l).length ≤ 1000000 := by rw [dblP_len]; exact hz
      simp only [V_seq, V_skip, V_block, V_region, V_draw, V_cond, brW_false, drawW, WS_nil, pairsOf, W_nil, W_cons, effOp2, effOp3, WI_nil, WI_cons, KN_seq, dynOK, indB, farB, seeB, see, isStore, freshB, freshK, freshK1, heapy, asB, effOp, effPure, effPick, effNew, effAlloc, effStore, effCall, giveUp, hasAll, skipE, pureV, pickV, storeV, binV, partV, eltV, loadV, iaddrV, lenV, over, solid, buildL, IV.cells, ofC, strip, lkT, lkH, ISt.app, opI, gO, gB, allB, gval, wrapG, dstOK, setD, mentTm, mentHp, IV.ment, IV.mentL, oneI, lendV, lendP, lent, lentP, idsV, idsL, lkHS, flat, clean, callArgs, callFn, allLent, enumT, Op.operands, Call.operands, List.append_toArray, reduceIte, reduceCtorEq, cond_true, cond_false, Bool.or_false, Bool.or_true, Bool.and_true, Bool.and_false, Bool.and_eq_true, Bool.not_true, Bool.not_false, Nat.reduceAdd, Nat.reduceLT, Nat.reduceLeDiff, Nat.reduceEqDiff, Nat.reduceBEq, Nat.zero_add, ne_eq, not_false_eq_true, beq_self_eq_true, true_and, and_true, false_and, and_false, and_self, implies_true, forall_const, List.map_cons, List.map_nil, List.nil_append, List.cons_append, List.append_nil, List.all_cons, List.all_nil, Option.bind_some, List.getElem?_cons_zero, List.getElem?_cons_succ, List.getD_cons_zero, List.getD_cons_succ, List.length_cons, List.length_nil, List.take_succ_cons, List.take_zero, List.take_nil, List.drop_succ_cons, List.drop_zero, List.drop_nil, ex_clo, or_self, Bool.false_eq_true, tab23, tab26, tab28, tab30, hN, isPs_enc, toPs_enc, lk_impl_diagonal_impl_edges_v, sp_impl_edges_v, el, w1, w2, t1, w3, ti, tk, c1, c2, gi, gk, hz, eq]
      repeat refine And.intro (by omega) ?_
      refine V_loop (α := Nat) ⟨tabOK, mixed, gok_impl_diagonal, hok_impl_diagonal⟩ (by kernel_rfl) (fun m => m ≤ l.length ∧ ∀ c, c < m → okIm l i k c = true) (fun m => ⟨[(43, .num .i64 m), (42, .num .i64 l.length), (41, .sl 4 (encQs (edgesP l))), (9, .ptr 9 0), (0, .sl 2 (encPs l)), (1, .num .i64 i), (2, .num .i64 k)], [(9, some (.box 30 [.num .i64 (pAt l i).1, .num .i64 (pAt l i).2, .num .i64 (pAt l k).1, .num .i64 (pAt l k).2]))]⟩) (fun m => l.length - m) 0 id ⟨Nat.zero_le _, fun c h => absurd h (Nat.not_lt_zero c)⟩ (by simp [SLe, SLe0, convTm, convHp, convB, conv, conv0, convL, lkT, lkH, clean]) ?_
      rintro m ⟨hml, hI⟩
      simp only [V_seq, V_region, V_cond, W_nil, W_cons, effOp2, KN_seq, asB, effOp, effPure, pureV, binV, strip, lkT, ISt.app, opI, gO, gB, allB, gval, wrapG, dstOK, setD, Op.operands, reduceIte, reduceCtorEq, Nat.reduceLT, Nat.reduceEqDiff, true_and, and_self, implies_true, List.nil_append, List.cons_append, hN]
      refine brW_some (fun h => ?_) (fun h => ?_)
      · have hm' : m < l.length := by simpa using h
        have g0 := getD_encQs (l := edgesP l) (i := m) (by omega)
        rw [edgesP_at hm'] at g0
        have hw := wr_succ hm' (by rw [maxLen_eq]; omega)
        have s0 := hm.edge m
        have nt := edge_ne f4 (by omega) hm'
        have hed : edP l m = edgeP l m := rfl
        have hok : okIm l i k m = if ((edgeP l m).1 == pAt l i || (edgeP l m).1 == pAt l k) || ((edgeP l m).2 == pAt l i || (edgeP l m).2 == pAt l k) then (comP (pAt l i, pAt l k) (edgeP l m)).length == 1 else relP (pAt l i, pAt l k) (edgeP l m) == 0 := rfl
        have hno : okIm l i k m = false → diagI l i k = false := fun h => by rw [hv, all_no hm' h]; rfl
        obtain ⟨e, he⟩ : ∃ e, edgeP l m = e := ⟨_, rfl⟩
        rw [he] at g0 s0 nt hok
        have ec := len_encPs (comP (pAt l i, pAt l k) e)
        cases x1 : (e.1 == pAt l i || e.1 == pAt l k) with
        | true =>
          rw [x1, Bool.true_or, if_pos rfl] at hok
          cases x3 : (((comP (pAt l i, pAt l k) e).length : Int) != 1) with
          | true =>
            have hf : diagI l i k = false := hno (by rw [hok]; simp at x3 ⊢; omega)
            simp only [V_seq, V_skip, V_ret, V_block, V_region, V_cond, brW_true, W_nil, W_cons, effOp2, KN_seq, KXr_nil, KXr_seq, KXr_block, KXr_back, QE, asB, effOp, effPure, effPick, effNew, effAlloc, effStore, effCall, giveUp, hasAll, skipE, pureV, pickV, storeV, binV, partV, eltV, loadV, faddrV, iaddrV, lenV, over, solid, IV.cells, ofC, strip, lkT, lkH, ISt.app, opI, gO, gB, allB, gval, wrapG, dstOK, setD, mentTm, mentHp, IV.ment, IV.mentL, oneI, lendV, lendP, lent, lentP, idsV, idsL, lkHS, flat, clean, callArgs, callFn, allLent, Gives, Ideal.Fin, conv, conv0, IBlk.shape, Op.operands, Call.operands, List.append_toArray, reduceIte, reduceCtorEq, cond_true, cond_false, Bool.or_false, Bool.or_true, Bool.and_true, Bool.not_true, Bool.not_false, Nat.reduceAdd, Nat.reduceLT, Nat.reduceLeDiff, Nat.reduceEqDiff, Nat.reduceBEq, Nat.add_zero, Nat.zero_add, ne_eq, not_false_eq_true, beq_self_eq_true, true_and, and_true, and_false, and_self, false_implies, implies_true, forall_const, List.map_cons, List.map_nil, List.nil_append, List.cons_append, List.append_nil, List.all_cons, List.all_nil, Option.map_some, Option.bind_some, List.getElem?_cons_zero, List.getElem?_cons_succ, List.getD_cons_zero, List.getD_cons_succ, List.length_cons, List.length_nil, List.take_succ_cons, List.take_zero, List.take_nil, List.drop_succ_cons, List.drop_zero, List.drop_nil, ex_clo, btf, or_true, or_self, Bool.true_eq_false, Bool.false_eq_true, tab23, tab26, tab28, tab30, hN, pe, Int.toNat_natCast, lk_impl_diagonal_impl_common, lk_impl_diagonal_impl_Segment_isEnd, sp_impl_common, sp_impl_Segment_isEnd, eq, g0, s0, sq, x1, x3, ec, hf]
            try omega
          | false =>
            have hy : okIm l i k m = true := by rw [hok]; simp at x3 ⊢; omega
            simp only [V_seq, V_skip, V_block, V_region, V_cond, brW_false, W_nil, W_cons, effOp2, KN_seq, KN_block, KN_back, asB, effOp, effPure, effPick, effNew, effAlloc, effStore, effCall, giveUp, hasAll, skipE, pureV, pickV, storeV, binV, partV, eltV, loadV, faddrV, iaddrV, lenV, over, solid, IV.cells, ofC, strip, lkT, lkH, ISt.app, opI, gO, gB, allB, gval, wrapG, dstOK, setD, mentTm, mentHp, IV.ment, IV.mentL, oneI, lendV, lendP, lent, lentP, idsV, idsL, lkHS, flat, clean, callArgs, callFn, allLent, IBlk.shape, Op.operands, Call.operands, List.append_toArray, reduceIte, reduceCtorEq, cond_true, cond_false, Bool.or_false, Bool.or_true, Bool.and_true, Bool.not_true, Bool.not_false, Nat.reduceAdd, Nat.reduceLT, Nat.reduceLeDiff, Nat.reduceEqDiff, Nat.reduceBEq, Nat.add_zero, Nat.zero_add, ne_eq, not_false_eq_true, beq_self_eq_true, true_and, and_true, and_false, and_self, false_implies, implies_true, forall_const, List.map_cons, List.map_nil, List.nil_append, List.cons_append, List.append_nil, List.all_cons, List.all_nil, Option.map_some, Option.bind_some, List.getElem?_cons_zero, List.getElem?_cons_succ, List.getD_cons_zero, List.getD_cons_succ, List.length_cons, List.length_nil, List.take_succ_cons, List.take_zero, List.take_nil, List.drop_succ_cons, List.drop_zero, List.drop_nil, ex_clo, bft, btf, or_true, or_self, Bool.true_eq_false, Bool.false_eq_true, tab23, tab26, tab28, tab30, hN, pe, Int.toNat_natCast, lk_impl_diagonal_impl_common, lk_impl_diagonal_impl_Segment_isEnd, lk_impl_diagonal_impl_relation, sp_impl_common, sp_impl_Segment_isEnd, sp_impl_relation, eq, g0, s0, sq, ns, nt, x1, x3, ec, hw]
            repeat refine And.intro (by first | omega | (simp; done) | (simp; omega)) ?_
            exact ⟨m + 1, id, ⟨by omega, lt_step hI hy⟩, by simp only []; omega, by simp [SLe, SLe0, convTm, convHp, convB, conv, conv0, convL, lkT, lkH, clean]⟩
        | false =>
          cases x2 : (e.2 == pAt l i || e.2 == pAt l k) with
          | true =>
            rw [x1, x2, Bool.or_true, if_pos rfl] at hok
            cases x3 : (((comP (pAt l i, pAt l k) e).length : Int) != 1) with
            | true =>
              have hf : diagI l i k = false := hno (by rw [hok]; simp at x3 ⊢; omega)
              simp only [V_seq, V_skip, V_ret, V_block, V_region, V_cond, brW_true, W_nil, W_cons, effOp2, KN_seq, KXr_nil, KXr_seq, KXr_block, KXr_back, QE, asB, effOp, effPure, effPick, effNew, effAlloc, effStore, effCall, giveUp, hasAll, skipE, pureV, pickV, storeV, binV, partV, eltV, loadV, faddrV, iaddrV, lenV, over, solid, IV.cells, ofC, strip, lkT, lkH, ISt.app, opI, gO, gB, allB, gval, wrapG, dstOK, setD, mentTm, mentHp, IV.ment, IV.mentL, oneI, lendV, lendP, lent, lentP, idsV, idsL, lkHS, flat, clean, callArgs, callFn, allLent, Gives, Ideal.Fin, conv, conv0, IBlk.shape, Op.operands, Call.operands, List.append_toArray, reduceIte, reduceCtorEq, cond_true, cond_false, Bool.or_false, Bool.and_true, Bool.not_true, Nat.reduceAdd, Nat.reduceLT, Nat.reduceLeDiff, Nat.reduceEqDiff, Nat.reduceBEq, Nat.add_zero, Nat.zero_add, ne_eq, not_false_eq_true, beq_self_eq_true, true_and, and_true, and_false, and_self, implies_true, forall_const, List.map_cons, List.map_nil, List.nil_append, List.cons_append, List.append_nil, List.all_cons, List.all_nil, Option.map_some, Option.bind_some, List.getElem?_cons_zero, List.getElem?_cons_succ, List.getD_cons_zero, List.getD_cons_succ, List.length_cons, List.length_nil, List.take_succ_cons, List.take_zero, List.take_nil, List.drop_succ_cons, List.drop_zero, List.drop_nil, ex_clo, or_true, or_self, Bool.true_eq_false, Bool.false_eq_true, tab23, tab26, tab28, tab30, hN, pe, Int.toNat_natCast, lk_impl_diagonal_impl_common, lk_impl_diagonal_impl_Segment_isEnd, sp_impl_common, sp_impl_Segment_isEnd, eq, g0, s0, sq, x1, x2, x3, ec, hf]
              try omega
            | false =>
              have hy : okIm l i k m = true := by rw [hok]; simp at x3 ⊢; omega
              simp only [V_seq, V_skip, V_block, V_region, V_cond, brW_false, W_nil, W_cons, effOp2, KN_seq, KN_block, KN_back, asB, effOp, effPure, effPick, effNew, effAlloc, effStore, effCall, giveUp, hasAll, skipE, pureV, pickV, storeV, binV, partV, eltV, loadV, faddrV, iaddrV, lenV, over, solid, IV.cells, ofC, strip, lkT, lkH, ISt.app, opI, gO, gB, allB, gval, wrapG, dstOK, setD, mentTm, mentHp, IV.ment, IV.mentL, oneI, lendV, lendP, lent, lentP, idsV, idsL, lkHS, flat, clean, callArgs, callFn, allLent, IBlk.shape, Op.operands, Call.operands, List.append_toArray, reduceIte, reduceCtorEq, cond_true, cond_false, Bool.or_false, Bool.or_true, Bool.and_true, Bool.not_true, Bool.not_false, Nat.reduceAdd, Nat.reduceLT, Nat.reduceLeDiff, Nat.reduceEqDiff, Nat.reduceBEq, Nat.add_zero, Nat.zero_add, ne_eq, not_false_eq_true, beq_self_eq_true, true_and, and_true, and_false, and_self, false_implies, implies_true, forall_const, List.map_cons, List.map_nil, List.nil_append, List.cons_append, List.append_nil, List.all_cons, List.all_nil, Option.map_some, Option.bind_some, List.getElem?_cons_zero, List.getElem?_cons_succ, List.getD_cons_zero, List.getD_cons_succ, List.length_cons, List.length_nil, List.take_succ_cons, List.take_zero, List.take_nil, List.drop_succ_cons, List.drop_zero, List.drop_nil, ex_clo, bft, or_true, or_self, Bool.true_eq_false, Bool.false_eq_true, tab23, tab26, tab28, tab30, hN, pe, Int.toNat_natCast, lk_impl_diagonal_impl_common, lk_impl_diagonal_impl_Segment_isEnd, lk_impl_diagonal_impl_relation, sp_impl_common, sp_impl_Segment_isEnd, sp_impl_relation, eq, g0, s0, sq, ns, nt, x1, x2, x3, ec, hw]
              repeat refine And.intro (by first | omega | (simp; done) | (simp; omega)) ?_
              exact ⟨m + 1, id, ⟨by omega, lt_step hI hy⟩, by simp only []; omega, by simp [SLe, SLe0, convTm, convHp, convB, conv, conv0, convL, lkT, lkH, clean]⟩
          | false =>
            rw [x1, x2, Bool.or_false, if_neg (by decide)] at hok
            cases x3 : (relP (pAt l i, pAt l k) e != 0) with
            | true =>
              have hf : diagI l i k = false := hno (by rw [hok]; simp at x3 ⊢; omega)
              simp only [V_seq, V_skip, V_ret, V_block, V_region, V_cond, brW_true, brW_false, W_nil, W_cons, effOp2, KN_seq, KXr_nil, KXr_seq, KXr_block, KXr_back, QE, asB, effOp, effPure, effPick, effNew, effAlloc, effStore, effCall, giveUp, hasAll, skipE, pureV, pickV, storeV, binV, partV, eltV, loadV, faddrV, iaddrV, lenV, over, solid, IV.cells, ofC, strip, lkT, lkH, ISt.app, opI, gO, gB, allB, gval, wrapG, dstOK, setD, mentTm, mentHp, IV.ment, IV.mentL, oneI, lendV, lendP, lent, lentP, idsV, idsL, lkHS, flat, clean, callArgs, callFn, allLent, Gives, Ideal.Fin, conv, conv0, IBlk.shape, Op.operands, Call.operands, List.append_toArray, reduceIte, reduceCtorEq, cond_true, cond_false, Bool.or_false, Bool.and_true, Bool.not_true, Bool.not_false, Nat.reduceAdd, Nat.reduceLT, Nat.reduceLeDiff, Nat.reduceEqDiff, Nat.reduceBEq, Nat.add_zero, Nat.zero_add, ne_eq, not_false_eq_true, beq_self_eq_true, true_and, and_true, and_false, and_self, false_implies, implies_true, forall_const, List.map_cons, List.map_nil, List.nil_append, List.cons_append, List.append_nil, List.all_cons, List.all_nil, Option.map_some, Option.bind_some, List.getElem?_cons_zero, List.getElem?_cons_succ, List.getD_cons_zero, List.getD_cons_succ, List.length_cons, List.length_nil, List.take_succ_cons, List.take_zero, List.take_nil, List.drop_succ_cons, List.drop_zero, List.drop_nil, ex_clo, bft, or_true, or_self, Bool.true_eq_false, Bool.false_eq_true, tab23, tab26, tab28, tab30, hN, pe, Int.toNat_natCast, lk_impl_diagonal_impl_common, lk_impl_diagonal_impl_Segment_isEnd, lk_impl_diagonal_impl_relation, sp_impl_common, sp_impl_Segment_isEnd, sp_impl_relation, eq, g0, s0, sq, ns, nt, x1, x2, x3, ec, hf]
              try omega
            | false =>
              have hy : okIm l i k m = true := by rw [hok]; simp at x3 ⊢; omega
              simp only [V_seq, V_skip, V_block, V_region, V_cond, brW_false, W_nil, W_cons, effOp2, KN_seq, KN_block, KN_back, asB, effOp, effPure, effPick, effNew, effAlloc, effStore, effCall, giveUp, hasAll, skipE, pureV, pickV, storeV, binV, partV, eltV, loadV, faddrV, iaddrV, lenV, over, solid, IV.cells, ofC, strip, lkT, lkH, ISt.app, opI, gO, gB, allB, gval, wrapG, dstOK, setD, mentTm, mentHp, IV.ment, IV.mentL, oneI, lendV, lendP, lent, lentP, idsV, idsL, lkHS, flat, clean, callArgs, callFn, allLent, IBlk.shape, Op.operands, Call.operands, List.append_toArray, reduceIte, reduceCtorEq, cond_true, cond_false, Bool.or_false, Bool.and_true, Bool.not_true, Bool.not_false, Nat.reduceAdd, Nat.reduceLT, Nat.reduceLeDiff, Nat.reduceEqDiff, Nat.reduceBEq, Nat.add_zero, Nat.zero_add, ne_eq, not_false_eq_true, beq_self_eq_true, true_and, and_true, and_false, and_self, false_implies, implies_true, forall_const, List.map_cons, List.map_nil, List.nil_append, List.cons_append, List.append_nil, List.all_cons, List.all_nil, Option.map_some, Option.bind_some, List.getElem?_cons_zero, List.getElem?_cons_succ, List.getD_cons_zero, List.getD_cons_succ, List.length_cons, List.length_nil, List.take_succ_cons, List.take_zero, List.take_nil, List.drop_succ_cons, List.drop_zero, List.drop_nil, ex_clo, bft, or_true, or_self, Bool.true_eq_false, Bool.false_eq_true, tab23, tab26, tab28, tab30, hN, pe, Int.toNat_natCast, lk_impl_diagonal_impl_common, lk_impl_diagonal_impl_Segment_isEnd, lk_impl_diagonal_impl_relation, sp_impl_common, sp_impl_Segment_isEnd, sp_impl_relation, eq, g0, s0, sq, ns, nt, x1, x2, x3, ec, hw]
              repeat refine And.intro (by first | omega | (simp; done) | (simp; omega)) ?_
              exact ⟨m + 1, id, ⟨by omega, lt_step hI hy⟩, by simp only []; omega, by simp [SLe, SLe0, convTm, convHp, convB, conv, conv0, convL, lkT, lkH, clean]⟩
      · have hie : m = l.length := by simp at h; omega
        subst hie
        have hall := all_yes hI
        rw [hall, Bool.true_and] at hv
        have s1 := hm.at i
        have s2 := hm.at k
        simp only [V_seq, V_ret, V_exit, V_draw, drawW, WS_nil, WS_cons, pairsOf, W_nil, W_cons, effOp2, effOp3, WI_nil, WI_cons, KN_seq, KXr_nil, KXe_nil, KXe_seq, KXe_block, KXe_back, QE, dynOK, indB, farB, freshB, freshK, freshK1, heapy, effOp, effPure, effCall, giveUp, hasAll, pureV, binV, partV, eltV, loadV, iaddrV, ofC, strip, lkT, lkH, ISt.app, opI, gO, gB, allB, gval, wrapG, dstOK, setD, mentTm, mentHp, IV.ment, IV.mentL, lendV, lendP, lent, lentP, idsV, idsL, lkHS, flat, flatL, clean, cleanL, callArgs, callFn, allLent, Gives, Ideal.Fin, conv, conv0, Op.operands, Call.operands, List.append_toArray, reduceIte, reduceCtorEq, cond_true, cond_false, Bool.or_false, Bool.or_true, Bool.and_true, Bool.true_and, Bool.and_eq_true, Bool.not_true, Bool.not_false, Nat.reduceAdd, Nat.reduceLT, Nat.reduceLeDiff, Nat.reduceEqDiff, Nat.reduceBEq, Nat.zero_add, ne_eq, not_false_eq_true, true_and, and_true, and_false, and_self, implies_true, forall_const, List.map_cons, List.map_nil, List.nil_append, List.cons_append, List.append_nil, List.getD_cons_zero, List.getD_cons_succ, List.length_cons, List.length_nil, List.take_succ_cons, List.take_zero, List.take_nil, List.drop_succ_cons, List.drop_zero, ex_clo, or_self, tab23, tab28, hN, pe, encP, isPs_enc, toPs_enc, lk_impl_diagonal_impl_twice_v, lk_impl_diagonal_impl_Point_plus, lk_impl_diagonal_impl_locate, sp_impl_twice_v, sp_impl_Point_plus, sp_impl_locate, el, hz, gi, gk, ti, tk, hm, s1, s2, sd, sp, hz2, hv]
        try omega
def sp_impl_diagonal : PSpec := ⟨fun xs => match xs with | [.sl 2 les, .num .i64 a, .num .i64 b] => isPs les ∧ ((fun (l : List Pt) (a : Int) (b : Int) => simpB l = true) (toPs les) a b) ∧ ((fun (l : List Pt) (a : Int) (b : Int) => 0 ≤ a) (toPs les) a b) ∧ ((fun (l : List Pt) (a : Int) (b : Int) => a < l.length) (toPs les) a b) ∧ ((fun (l : List Pt) (a : Int) (b : Int) => 0 ≤ b) (toPs les) a b) ∧ ((fun (l : List Pt) (a : Int) (b : Int) => b < l.length) (toPs les) a b) | _ => False, fun xs => match xs with | [.sl _ les, .num _ a, .num _ b] => (fun (l : List Pt) (a : Int) (b : Int) => .bool (diagI l a.toNat b.toNat)) (toPs les) a b | _ => .junk, false⟩
theorem gk_impl_diagonal : ∀ args, sp_impl_diagonal.pre args → ICall Try.prog 54 args (sp_impl_diagonal.val args) := by
  intro args h
  unfold sp_impl_diagonal at h ⊢; simp only at h ⊢; split at h
  · obtain ⟨h0, h1, h2, h3, h4, h5⟩ := h
    obtain ⟨l0, rfl⟩ := isP_ex h0
    simp only [toPs_enc] at *
    exact c_impl_diagonal _ _ _ h1 h2 h3 h4 h5
  · exact h.elim
theorem en_impl_diagonal : Enters Try.prog 54 := enters_of Try.func54 (by kernel_rfl) rfl


/-! the reference -/
def g_spec_inCone : List (Nat × PSpec) := [(107, sp_spec_cross)]
theorem gok_spec_inCone : GOK Try.prog g_spec_inCone := gok_cons gk_spec_cross en_spec_cross (gok0)
theorem lk_spec_inCone_spec_cross : lkG g_spec_inCone 107 = sp_spec_cross := rfl
def h_spec_inCone : List (Nat × HSpec) := []
theorem hok_spec_inCone : HOK Try.prog h_spec_inCone := hok0
theorem c_spec_inCone (l : List Pt) (r : List Int) (a : Int) (q : Pt) (hm : SmL l) (hq : Sm q) (hsz : l.length ≤ 1000000) (hr : ∀ x ∈ r, 0 ≤ x ∧ x < (l.length : Int)) (hrz : r.length ≤ 1000000) (ha0 : 0 ≤ a) (ha1 : a < r.length) : ICall Try.prog 98 [.sl 2 (encPs l), .sl 1 (encI r), .num .i64 a, encP q] (.bool (coneP (pAt l (iAt r ((a.toNat + r.length - 1) % r.length)).toNat) (pAt l (iAt r a.toNat).toNat) (pAt l (iAt r ((a.toNat + 1) % r.length)).toNat) q)) := by
  refine icall_V (G := g_spec_inCone) (H := []) [] tabOK mixed gok_spec_inCone hok_spec_inCone Try.func98 rfl Try.ntmps98 Try.results98 rfl (by kernel_rfl) fun F hN hlen => ?_
  obtain ⟨i, rfl⟩ : ∃ i : Nat, a = i := ⟨a.toNat, by omega⟩
  have hi : i < r.length := by omega
  have el := len_encPs l
  have er := len_encI r
  have rb : ∀ j, j < r.length → 0 ≤ iAt r j ∧ iAt r j < (l.length : Int) := fun j hj => hr _ (by rw [iAt, List.getD, List.getElem?_eq_getElem hj]; exact List.getElem_mem hj)
  have j0 := Nat.mod_lt (i + r.length - 1) (show 0 < r.length by omega)
  have j1 := Nat.mod_lt (i + 1) (show 0 < r.length by omega)
  have w1 : IntKind.i64.wrap ((i : Int) + (r.length : Int)) = ((i + r.length : Nat) : Int) := by rw [wr (by omega) (by omega)]; omega
  have w2 : IntKind.i64.wrap (((i + r.length : Nat) : Int) - 1) = ((i + r.length - 1 : Nat) : Int) := by rw [wr (by omega) (by omega)]; omega
  have w3 : IntKind.i64.wrap ((i : Int) + 1) = ((i + 1 : Nat) : Int) := by rw [wr (by omega) (by omega)]; omega
  have t1 : ((i + r.length - 1 : Nat) : Int).tmod (r.length : Int) = (((i + r.length - 1) % r.length : Nat) : Int) := by rw [Int.tmod_eq_emod_of_nonneg (by omega)]; simp
  have t2 : ((i + 1 : Nat) : Int).tmod (r.length : Int) = (((i + 1) % r.length : Nat) : Int) := by rw [Int.tmod_eq_emod_of_nonneg (by omega)]; simp
  have d5 : ((r.length : Int) == 0) = false := by rw [beq_eq_false_iff_ne]; omega
  have ti : Int.toNat (i : Int) = i := Int.toNat_natCast i
  have k1 : Int.toNat (((i + r.length - 1) % r.length : Nat) : Int) = (i + r.length - 1) % r.length := Int.toNat_natCast _
  have k2 : Int.toNat (((i + 1) % r.length : Nat) : Int) = (i + 1) % r.length := Int.toNat_natCast _
  obtain ⟨x, hx⟩ : ∃ x, (i + r.length - 1) % r.length = x := ⟨_, rfl⟩
  obtain ⟨y, hy⟩ : ∃ y, (i + 1) % r.length = y := ⟨_, rfl⟩
  rw [hx] at j0 t1 k1
  rw [hy] at j1 t2 k2
  have b0 := rb x j0
  have b1 := rb i hi
  have b2 := rb y j1
  have g0 := getD_encI j0
  have g1 := getD_encI hi
  have g2 := getD_encI j1
  have ea : ∀ j, r.getD j 0 = iAt r j := fun j => rfl
  rw [ea] at g0 g1 g2
  obtain ⟨X, hX⟩ : ∃ X, iAt r x = X := ⟨_, rfl⟩
  obtain ⟨I, hI⟩ : ∃ I, iAt r i = I := ⟨_, rfl⟩
  obtain ⟨Y, hY⟩ : ∃ Y, iAt r y = Y := ⟨_, rfl⟩
  rw [hX] at b0 g0
  rw [hI] at b1 g1
  rw [hY] at b2 g2
  have f0 := getD_encPs (l := l) (i := X.toNat) (by omega)
  have f1 := getD_encPs (l := l) (i := I.toNat) (by omega)
  have f2 := getD_encPs (l := l) (i := Y.toNat) (by omega)
  have s0 := hm.at X.toNat
  have s1 := hm.at I.toNat
  have s2 := hm.at Y.toNat
  have hc : coneP (pAt l X.toNat) (pAt l I.toNat) (pAt l Y.toNat) q = if 0 < turn (pAt l X.toNat) (pAt l I.toNat) (pAt l Y.toNat) then decide (0 < turn (pAt l I.toNat) q (pAt l X.toNat)) && decide (0 < turn (pAt l I.toNat) (pAt l Y.toNat) q) else !(decide (turn (pAt l I.toNat) q (pAt l X.toNat) ≤ 0) && decide (turn (pAt l I.toNat) (pAt l Y.toNat) q ≤ 0)) := rfl
  obtain ⟨A, hA⟩ : ∃ A, pAt l X.toNat = A := ⟨_, rfl⟩
  obtain ⟨B, hB⟩ : ∃ B, pAt l I.toNat = B := ⟨_, rfl⟩
  obtain ⟨C, hC⟩ : ∃ C, pAt l Y.toNat = C := ⟨_, rfl⟩
  have hval : coneP (pAt l (iAt r ((i + r.length - 1) % r.length)).toNat) (pAt l (iAt r i).toNat) (pAt l (iAt r ((i + 1) % r.length)).toNat) q = coneP A B C q := by rw [hx, hy, hX, hI, hY, hA, hB, hC]
  rw [hA, hB, hC] at hc
  rw [hA] at f0 s0
  rw [hB] at f1 s1
  rw [hC] at f2 s2
  clear hx hy hX hI hY hA hB hC ea rb hr
  rw [hc] at hval
  cases c1 : decide (0 < turn A B C) with
  | true =>
    rw [if_pos (of_decide_eq_true c1)] at hval
    cases c2 : decide (0 < turn B q A) with
    | true =>
      rw [c2, Bool.true_and] at hval
      simp only [V_seq, V_ret, V_region, V_cond, brW_true, W_nil, W_cons, effOp2, KN_seq, KXr_nil, KXr_seq, QE, asB, effOp, effPure, effPick, effNew, effAlloc, effBox, effStore, effCall, giveUp, hasAll, skipE, pureV, pickV, storeV, binV, partV, eltV, loadV, iaddrV, lenV, over, solid, IV.cells, ofC, strip, lkT, lkH, ISt.app, opI, gO, gB, allB, gval, wrapG, dstOK, setD, mentTm, mentHp, IV.ment, IV.mentL, oneI, lendV, lendP, lent, lentP, idsV, idsL, lkHS, flat, clean, callArgs, callFn, allLent, enumT, Gives, Ideal.Fin, conv, conv0, Op.operands, Call.operands, List.append_toArray, reduceIte, reduceCtorEq, cond_true, Bool.or_false, Bool.and_true, Bool.not_true, Nat.reduceAdd, Nat.reduceLT, Nat.reduceLeDiff, Nat.reduceEqDiff, Nat.reduceBEq, Nat.zero_add, ne_eq, not_false_eq_true, beq_self_eq_true, true_and, and_true, and_false, and_self, implies_true, forall_const, List.map_cons, List.map_nil, List.nil_append, List.cons_append, List.append_nil, List.all_cons, List.all_nil, Option.bind_some, List.getElem?_cons_zero, List.getElem?_cons_succ, List.getD_cons_zero, List.length_cons, List.length_nil, List.take_succ_cons, List.take_zero, List.take_nil, List.drop_succ_cons, List.drop_zero, List.drop_nil, ex_clo, or_self, Bool.true_eq_false, tab3, tab23, tab28, tab72, hN, pe, encP, lk_spec_inCone_spec_cross, sp_spec_cross, el, er, w1, w2, w3, t1, t2, ti, k1, k2, g0, g1, g2, f0, f1, f2, s0, s1, s2, hq, c1, c2, hval]
      omega
    | false =>
      rw [c2, Bool.false_and] at hval
      simp only [V_seq, V_ret, V_region, V_cond, brW_true, W_nil, W_cons, effOp2, KN_seq, KXr_nil, KXr_seq, QE, asB, effOp, effPure, effPick, effNew, effAlloc, effBox, effStore, effCall, giveUp, hasAll, skipE, pureV, pickV, storeV, binV, partV, eltV, loadV, iaddrV, lenV, over, solid, IV.cells, ofC, strip, lkT, lkH, ISt.app, opI, gO, gB, allB, gval, wrapG, dstOK, setD, mentTm, mentHp, IV.ment, IV.mentL, oneI, lendV, lendP, lent, lentP, idsV, idsL, lkHS, flat, clean, callArgs, callFn, allLent, enumT, Gives, Ideal.Fin, conv, conv0, Op.operands, Call.operands, List.append_toArray, reduceIte, reduceCtorEq, cond_true, cond_false, Bool.or_false, Bool.or_true, Bool.and_true, Bool.not_true, Bool.not_false, Nat.reduceAdd, Nat.reduceLT, Nat.reduceLeDiff, Nat.reduceEqDiff, Nat.reduceBEq, Nat.zero_add, ne_eq, not_false_eq_true, true_and, and_true, and_false, and_self, false_implies, implies_true, forall_const, List.map_cons, List.map_nil, List.nil_append, List.cons_append, List.append_nil, List.all_cons, List.all_nil, Option.bind_some, List.getElem?_cons_zero, List.getElem?_cons_succ, List.getD_cons_zero, List.length_cons, List.length_nil, List.take_succ_cons, List.take_zero, List.take_nil, List.drop_succ_cons, List.drop_zero, List.drop_nil, ex_clo, bft, or_self, Bool.false_eq_true, tab3, tab23, tab28, tab72, hN, pe, encP, lk_spec_inCone_spec_cross, sp_spec_cross, el, er, w1, w2, w3, t1, t2, ti, k1, k2, g0, g1, g2, f0, f1, f2, s0, s1, s2, hq, c1, c2, hval]
      omega
  | false =>
    rw [if_neg (of_decide_eq_false c1)] at hval
    cases c2 : decide (turn B q A ≤ 0) with
    | true =>
      rw [c2, Bool.true_and] at hval
      simp only [V_seq, V_skip, V_ret, V_region, V_cond, brW_false, W_nil, W_cons, effOp2, KN_seq, KXr_nil, QE, asB, effOp, effPure, effPick, effNew, effAlloc, effBox, effStore, effCall, giveUp, hasAll, skipE, pureV, pickV, storeV, binV, partV, eltV, loadV, iaddrV, lenV, over, solid, IV.cells, ofC, strip, lkT, lkH, ISt.app, opI, gO, gB, allB, gval, wrapG, dstOK, setD, mentTm, mentHp, IV.ment, IV.mentL, oneI, lendV, lendP, lent, lentP, idsV, idsL, lkHS, flat, clean, callArgs, callFn, allLent, enumT, Gives, Ideal.Fin, conv, conv0, Op.operands, Call.operands, List.append_toArray, reduceIte, reduceCtorEq, cond_true, Bool.or_false, Bool.and_true, Bool.not_true, Nat.reduceAdd, Nat.reduceLT, Nat.reduceLeDiff, Nat.reduceEqDiff, Nat.reduceBEq, Nat.zero_add, ne_eq, not_false_eq_true, beq_self_eq_true, true_and, and_true, and_false, and_self, implies_true, forall_const, List.map_cons, List.map_nil, List.nil_append, List.cons_append, List.append_nil, List.all_cons, List.all_nil, Option.bind_some, List.getElem?_cons_zero, List.getElem?_cons_succ, List.getD_cons_zero, List.length_cons, List.length_nil, List.take_succ_cons, List.take_zero, List.take_nil, List.drop_succ_cons, List.drop_zero, List.drop_nil, ex_clo, or_self, Bool.true_eq_false, tab3, tab23, tab28, tab72, hN, pe, encP, lk_spec_inCone_spec_cross, sp_spec_cross, el, er, w1, w2, w3, t1, t2, ti, k1, k2, g0, g1, g2, f0, f1, f2, s0, s1, s2, hq, c1, c2, hval]
      omega
    | false =>
      rw [c2, Bool.false_and] at hval
      simp only [V_seq, V_skip, V_ret, V_region, V_cond, brW_false, W_nil, W_cons, effOp2, KN_seq, KXr_nil, QE, asB, effOp, effPure, effPick, effNew, effAlloc, effBox, effStore, effCall, giveUp, hasAll, skipE, pureV, pickV, storeV, binV, partV, eltV, loadV, iaddrV, lenV, over, solid, IV.cells, ofC, strip, lkT, lkH, ISt.app, opI, gO, gB, allB, gval, wrapG, dstOK, setD, mentTm, mentHp, IV.ment, IV.mentL, oneI, lendV, lendP, lent, lentP, idsV, idsL, lkHS, flat, clean, callArgs, callFn, allLent, enumT, Gives, Ideal.Fin, conv, conv0, Op.operands, Call.operands, List.append_toArray, reduceIte, reduceCtorEq, cond_true, cond_false, Bool.or_false, Bool.or_true, Bool.and_true, Bool.not_true, Bool.not_false, Nat.reduceAdd, Nat.reduceLT, Nat.reduceLeDiff, Nat.reduceEqDiff, Nat.reduceBEq, Nat.zero_add, ne_eq, not_false_eq_true, true_and, and_true, and_false, and_self, false_implies, implies_true, forall_const, List.map_cons, List.map_nil, List.nil_append, List.cons_append, List.append_nil, List.all_cons, List.all_nil, Option.bind_some, List.getElem?_cons_zero, List.getElem?_cons_succ, List.getD_cons_zero, List.length_cons, List.length_nil, List.take_succ_cons, List.take_zero, List.take_nil, List.drop_succ_cons, List.drop_zero, List.drop_nil, ex_clo, bft, or_self, Bool.false_eq_true, tab3, tab23, tab28, tab72, hN, pe, encP, lk_spec_inCone_spec_cross, sp_spec_cross, el, er, w1, w2, w3, t1, t2, ti, k1, k2, g0, g1, g2, f0, f1, f2, s0, s1, s2, hq, c1, c2, hval]
      omega
def sp_spec_inCone : PSpec := ⟨fun xs => match xs with | [.sl 2 les, .sl 1 res, .num .i64 a, .agg [.num .i64 q1, .num .i64 q2]] => isPs les ∧ isIs res ∧ ((fun (l : List Pt) (r : List Int) (a : Int) (q : Pt) => SmL l) (toPs les) (toIs res) a (q1, q2)) ∧ ((fun (l : List Pt) (r : List Int) (a : Int) (q : Pt) => Sm q) (toPs les) (toIs res) a (q1, q2)) ∧ ((fun (l : List Pt) (r : List Int) (a : Int) (q : Pt) => l.length ≤ 1000000) (toPs les) (toIs res) a (q1, q2)) ∧ ((fun (l : List Pt) (r : List Int) (a : Int) (q : Pt) => ∀ x ∈ r, 0 ≤ x ∧ x < (l.length : Int)) (toPs les) (toIs res) a (q1, q2)) ∧ ((fun (l : List Pt) (r : List Int) (a : Int) (q : Pt) => r.length ≤ 1000000) (toPs les) (toIs res) a (q1, q2)) ∧ ((fun (l : List Pt) (r : List Int) (a : Int) (q : Pt) => 0 ≤ a) (toPs les) (toIs res) a (q1, q2)) ∧ ((fun (l : List Pt) (r : List Int) (a : Int) (q : Pt) => a < r.length) (toPs les) (toIs res) a (q1, q2)) | _ => False, fun xs => match xs with | [.sl _ les, .sl _ res, .num _ a, .agg [.num _ q1, .num _ q2]] => (fun (l : List Pt) (r : List Int) (a : Int) (q : Pt) => .bool (coneP (pAt l (iAt r ((a.toNat + r.length - 1) % r.length)).toNat) (pAt l (iAt r a.toNat).toNat) (pAt l (iAt r ((a.toNat + 1) % r.length)).toNat) q)) (toPs les) (toIs res) a (q1, q2) | _ => .junk, false⟩
theorem gk_spec_inCone : ∀ args, sp_spec_inCone.pre args → ICall Try.prog 98 args (sp_spec_inCone.val args) := by
  intro args h
  unfold sp_spec_inCone at h ⊢; simp only at h ⊢; split at h
  · obtain ⟨h0, h1, h2, h3, h4, h5, h6, h7, h8⟩ := h
    obtain ⟨l0, rfl⟩ := isP_ex h0
    obtain ⟨l1, rfl⟩ := isI_ex h1
    simp only [toPs_enc, toIs_enc] at *
    exact c_spec_inCone _ _ _ (_, _) h2 h3 h4 h5 h6 h7 h8
  · exact h.elim
theorem en_spec_inCone : Enters Try.prog 98 := enters_of Try.func98 (by kernel_rfl) rfl

theorem ring_at {l : List Pt} {j : Nat} (h : j < l.length) : iAt (ringL l) j = ((rgF l.length (decide (areaP l < 0)) j : Nat) : Int) := by simp [iAt, ringL, ringN, List.getD, h]
theorem pl_first {x : Int} : ∀ (r : List Int) (k j : Nat), j < r.length → iAt r j = x → (∀ a, a < j → iAt r a ≠ x) → plN x r k = ((k + j : Nat) : Int)
  | [], _, _, h, _, _ => by simp at h
  | y :: r, k, 0, _, h, _ => by
    have : y = x := h
    rw [plN, if_pos this]; rfl
  | y :: r, k, j + 1, h, h1, h2 => by
    have hy : y ≠ x := h2 0 (by omega)
    rw [plN, if_neg hy, pl_first r (k + 1) j (by simpa using h) h1 (fun a ha => h2 (a + 1) (by omega))]
    omega
theorem rg_lt {n i : Nat} (b : Bool) (h : i < n) : rgF n b i < n := by
  unfold rgF; split
  · exact Nat.mod_lt _ (by omega)
  · exact h
theorem rg_inv {n i : Nat} (b : Bool) (h : i < n) : rgF n b (rgF n b i) = i := by
  unfold rgF; split
  · by_cases c : i = 0
    · subst c; simp
    · rw [Nat.mod_eq_of_lt (show n - i < n by omega), show n - (n - i) = i by omega, Nat.mod_eq_of_lt h]
  · rfl
/-- The place of a vertex in the ring, and its neighbours there. -/
theorem pl_ring {l : List Pt} {i : Nat} (h : i < l.length) : plN (i : Int) (ringL l) 0 = ((rgF l.length (decide (areaP l < 0)) i : Nat) : Int) := by
  have hl : (ringL l).length = l.length := by rw [ringL, ringN_len]
  have hr := rg_lt (decide (areaP l < 0)) h
  rw [pl_first (ringL l) 0 (rgF l.length (decide (areaP l < 0)) i) (by omega) (by rw [ring_at hr, rg_inv _ h]) (fun a ha => ?_), Nat.zero_add]
  rw [ring_at (by omega)]
  intro e
  have e' : rgF l.length (decide (areaP l < 0)) a = i := by omega
  have := rg_inv (decide (areaP l < 0)) (show a < l.length by omega)
  rw [e'] at this
  omega
theorem ring_cone {l : List Pt} {i k : Nat} (h : i < l.length) : coneP (pAt l (iAt (ringL l) (((rgF l.length (decide (areaP l < 0)) i : Nat) + (ringL l).length - 1) % (ringL l).length)).toNat) (pAt l (iAt (ringL l) (rgF l.length (decide (areaP l < 0)) i : Nat)).toNat) (pAt l (iAt (ringL l) (((rgF l.length (decide (areaP l < 0)) i : Nat) + 1) % (ringL l).length)).toNat) (pAt l k) = inA l i k := by
  have hl : (ringL l).length = l.length := by rw [ringL, ringN_len]
  have h0 : 0 < l.length := by omega
  rw [hl, ring_at (Nat.mod_lt _ h0), ring_at (rg_lt _ h), ring_at (Nat.mod_lt _ h0), rg_inv _ h]
  simp only [Int.toNat_natCast]
  unfold inA
  by_cases c : areaP l < 0
  · rw [if_pos c, decide_eq_true c]
    have e0 : rgF l.length true i = (l.length - i) % l.length := rfl
    have e1 : rgF l.length true (((l.length - i) % l.length + l.length - 1) % l.length) = (i + 1) % l.length := by
      show (l.length - _) % l.length = _
      by_cases z : i = 0
      · subst z
        by_cases o : l.length = 1
        · simp [o]
        · rw [Nat.sub_zero, Nat.mod_self, Nat.mod_eq_of_lt (show 0 + l.length - 1 < l.length by omega), show l.length - (0 + l.length - 1) = 0 + 1 by omega]
      · rw [Nat.mod_eq_of_lt (show l.length - i < l.length by omega), show l.length - i + l.length - 1 = (l.length - i - 1) + l.length by omega, Nat.add_mod_right, Nat.mod_eq_of_lt (show l.length - i - 1 < l.length by omega), show l.length - (l.length - i - 1) = i + 1 by omega]
    have e2 : rgF l.length true (((l.length - i) % l.length + 1) % l.length) = (i + l.length - 1) % l.length := by
      show (l.length - _) % l.length = _
      by_cases z : i = 0
      · subst z
        by_cases o : l.length = 1
        · simp [o]
        · rw [Nat.sub_zero, Nat.mod_self, Nat.mod_eq_of_lt (show 0 + 1 < l.length by omega), Nat.mod_eq_of_lt (show l.length - (0 + 1) < l.length by omega), Nat.mod_eq_of_lt (show 0 + l.length - 1 < l.length by omega)]; omega
      · rw [Nat.mod_eq_of_lt (show l.length - i < l.length by omega), show i + l.length - 1 = (i - 1) + l.length by omega, Nat.add_mod_right, Nat.mod_eq_of_lt (show i - 1 < l.length by omega)]
        by_cases z1 : i = 1
        · subst z1
          rw [show l.length - 1 + 1 = l.length by omega, Nat.mod_self, Nat.sub_zero, Nat.mod_self]
        · rw [Nat.mod_eq_of_lt (show l.length - i + 1 < l.length by omega), show l.length - (l.length - i + 1) = i - 1 by omega, Nat.mod_eq_of_lt (by omega)]
    rw [e0, e1, e2]
  · rw [if_neg c, decide_eq_false c]
    have e0 : ∀ j, rgF l.length false j = j := fun j => rfl
    simp only [e0]
theorem ring_mem {l : List Pt} : ∀ x ∈ ringL l, 0 ≤ x ∧ x < (l.length : Int) := by
  intro x hx
  simp only [ringL, ringN, List.mem_map, List.mem_range] at hx
  obtain ⟨j, hj, rfl⟩ := hx
  have := rg_lt (decide (areaP l < 0)) hj
  omega

theorem eqb {a b : Nat} : (((a : Nat) : Int) == ((b : Nat) : Int)) = decide (a = b) := by
  rw [Bool.eq_iff_iff]; simp; omega
theorem neb {a b : Nat} : (((a : Nat) : Int) != ((b : Nat) : Int)) = !decide (a = b) := by
  rw [bne, eqb]
def g_spec_isDiagonal : List (Nat × PSpec) := [(86, sp_spec_edgeOf), (96, sp_spec_onSegment), (85, sp_spec_relation), (97, sp_spec_ringOf_v), (99, sp_spec_placeOf), (98, sp_spec_inCone)]
theorem gok_spec_isDiagonal : GOK Try.prog g_spec_isDiagonal := gok_cons gk_spec_edgeOf en_spec_edgeOf (gok_cons gk_spec_onSegment en_spec_onSegment (gok_cons gk_spec_relation en_spec_relation (gok_consO gk_spec_ringOf_v en_spec_ringOf_v (gok_cons gk_spec_placeOf en_spec_placeOf (gok_cons gk_spec_inCone en_spec_inCone (gok0))))))
theorem lk_spec_isDiagonal_spec_edgeOf : lkG g_spec_isDiagonal 86 = sp_spec_edgeOf := rfl
theorem lk_spec_isDiagonal_spec_onSegment : lkG g_spec_isDiagonal 96 = sp_spec_onSegment := rfl
theorem lk_spec_isDiagonal_spec_relation : lkG g_spec_isDiagonal 85 = sp_spec_relation := rfl
theorem lk_spec_isDiagonal_spec_ringOf_v : lkG g_spec_isDiagonal 97 = sp_spec_ringOf_v := rfl
theorem lk_spec_isDiagonal_spec_placeOf : lkG g_spec_isDiagonal 99 = sp_spec_placeOf := rfl
theorem lk_spec_isDiagonal_spec_inCone : lkG g_spec_isDiagonal 98 = sp_spec_inCone := rfl
def h_spec_isDiagonal : List (Nat × HSpec) := []
theorem hok_spec_isDiagonal : HOK Try.prog h_spec_isDiagonal := hok0
theorem c_spec_isDiagonal (l : List Pt) (a : Int) (b : Int) (hs : simpB l = true) (ha0 : 0 ≤ a) (ha1 : a < l.length) (hb0 : 0 ≤ b) (hb1 : b < l.length) : ICall Try.prog 51 [.sl 2 (encPs l), .num .i64 a, .num .i64 b] (.bool (diagS l a.toNat b.toNat)) := by
  refine icall_V (G := g_spec_isDiagonal) (H := []) [(4, [(0, 9), (1, 9), (2, 9), (3, 9), (4, 9), (5, 9), (6, 9), (7, 9), (8, 9)]), (10, [(0, 14), (1, 14), (2, 14), (3, 14), (4, 14), (5, 14), (6, 14), (7, 14), (10, 14), (11, 14), (12, 14), (14, 17), (14, 18), (14, 19), (14, 20), (14, 21), (14, 22), (14, 23), (14, 24), (14, 25), (14, 26), (14, 27), (14, 28), (14, 29), (14, 30), (14, 31), (14, 32), (14, 33), (14, 34), (14, 35), (14, 36), (14, 37), (14, 38), (14, 39), (0, 40), (1, 40), (2, 40), (3, 40), (4, 40), (5, 40), (6, 40), (7, 40), (8, 40), (9, 40), (10, 40), (11, 40), (12, 40), (13, 40), (14, 40), (15, 40), (16, 40), (17, 40), (18, 40), (19, 40), (20, 40), (21, 40), (22, 40), (23, 40), (24, 40), (25, 40), (26, 40), (27, 40), (28, 40), (29, 40), (30, 40), (33, 40), (34, 40), (35, 40), (36, 40), (37, 40), (38, 40), (14, 41), (14, 42), (40, 42)]), (15, [(0, 4), (1, 4), (4, 5), (4, 6), (4, 7), (4, 8), (2, 9), (3, 9), (5, 9), (6, 9), (7, 9)])] tabOK mixed gok_spec_isDiagonal hok_spec_isDiagonal Try.func51 rfl Try.ntmps51 Try.results51 rfl (by kernel_rfl) fun F hN hlen => ?_
  obtain ⟨i, rfl⟩ : ∃ i : Nat, a = i := ⟨a.toNat, by omega⟩
  obtain ⟨k, rfl⟩ : ∃ k : Nat, b = k := ⟨b.toNat, by omega⟩
  have hi : i < l.length := by omega
  have hk : k < l.length := by omega
  obtain ⟨f1, f2, f3, f4⟩ := ring_facts (simp_ring hs)
  have hm := okPs_sm f1
  have el := len_encPs l
  have hz : l.length ≤ 1000000 := by omega
  have d5 : ((l.length : Int) == 0) = false := by rw [beq_eq_false_iff_ne]; omega
  have ti : Int.toNat (i : Int) = i := Int.toNat_natCast i
  have tk : Int.toNat (k : Int) = k := Int.toNat_natCast k
  have wi : IntKind.i64.wrap ((i : Int) + 1) = ((i + 1 : Nat) : Int) := by rw [wr (by omega) (by omega)]; omega
  have wk : IntKind.i64.wrap ((k : Int) + 1) = ((k + 1 : Nat) : Int) := by rw [wr (by omega) (by omega)]; omega
  have t1 : ((i + 1 : Nat) : Int).tmod (l.length : Int) = (((i + 1) % l.length : Nat) : Int) := by rw [Int.tmod_eq_emod_of_nonneg (by omega)]; simp
  have t2 : ((k + 1 : Nat) : Int).tmod (l.length : Int) = (((k + 1) % l.length : Nat) : Int) := by rw [Int.tmod_eq_emod_of_nonneg (by omega)]; simp
  have gi := getD_encPs hi
  have gk := getD_encPs hk
  have hv : diagS l i k = (!nearD l.length i k && (((List.range l.length).all fun m => okSp l i k m) && inA l i k)) := rfl
  have hnd : nearD l.length i k = (decide (i = k) || (decide ((i + 1) % l.length = k) || decide ((k + 1) % l.length = i))) := by
    have : decide (i = k) = decide (k = i) := decide_eq_decide.2 ⟨Eq.symm, Eq.symm⟩
    rw [this]; rfl
  cases c1 : decide (i = k) with
  | true =>
    rw [c1] at hnd
    rw [hnd] at hv
    simp only [V_seq, V_ret, V_region, V_cond, brW_true, W_nil, W_cons, effOp2, KN_seq, KXr_nil, KXr_seq, QE, asB, effOp, effPure, effPick, pureV, pickV, binV, lenV, ofC, strip, lkT, lkH, ISt.app, opI, gO, gB, allB, gval, wrapG, dstOK, setD, clean, enumT, Gives, Ideal.Fin, conv, conv0, Op.operands, Call.operands, List.append_toArray, reduceIte, reduceCtorEq, cond_true, Bool.true_or, Bool.false_and, Bool.not_true, Nat.reduceAdd, Nat.reduceLT, Nat.reduceEqDiff, Nat.zero_add, ne_eq, not_false_eq_true, true_and, and_true, false_and, and_self, false_implies, implies_true, List.nil_append, List.cons_append, List.append_nil, Option.bind_some, List.getElem?_cons_zero, List.getElem?_cons_succ, btf, Bool.true_eq_false, Bool.false_eq_true, tab23, hN, el, wi, wk, t1, t2, ti, tk, eqb, c1, hv]
    try omega
  | false =>
    cases c2 : decide ((i + 1) % l.length = k) with
    | true =>
      rw [c1, c2] at hnd
      rw [hnd] at hv
      simp only [V_seq, V_ret, V_region, V_cond, brW_true, W_nil, W_cons, effOp2, KN_seq, KXr_nil, KXr_seq, QE, asB, effOp, effPure, effPick, pureV, pickV, binV, lenV, ofC, strip, lkT, lkH, ISt.app, opI, gO, gB, allB, gval, wrapG, dstOK, setD, clean, enumT, Gives, Ideal.Fin, conv, conv0, Op.operands, Call.operands, List.append_toArray, reduceIte, reduceCtorEq, cond_true, cond_false, Bool.or_true, Bool.true_or, Bool.false_and, Bool.not_true, Nat.reduceAdd, Nat.reduceLT, Nat.reduceEqDiff, Nat.zero_add, ne_eq, not_false_eq_true, beq_self_eq_true, true_and, and_true, false_and, and_self, false_implies, implies_true, forall_const, List.nil_append, List.cons_append, List.append_nil, Option.bind_some, List.getElem?_cons_zero, List.getElem?_cons_succ, btf, Bool.true_eq_false, Bool.false_eq_true, tab23, hN, el, wi, wk, t1, t2, ti, tk, eqb, c1, c2, hv]
      try omega
    | false =>
      cases c3 : decide ((k + 1) % l.length = i) with
      | true =>
        rw [c1, c2, c3] at hnd
        rw [hnd] at hv
        simp only [V_seq, V_ret, V_region, V_cond, brW_true, W_nil, W_cons, effOp2, KN_seq, KXr_nil, KXr_seq, QE, asB, effOp, effPure, effPick, pureV, pickV, binV, lenV, ofC, strip, lkT, lkH, ISt.app, opI, gO, gB, allB, gval, wrapG, dstOK, setD, clean, enumT, Gives, Ideal.Fin, conv, conv0, Op.operands, Call.operands, List.append_toArray, reduceIte, reduceCtorEq, cond_false, Bool.or_true, Bool.false_and, Bool.not_true, Nat.reduceAdd, Nat.reduceLT, Nat.reduceEqDiff, Nat.zero_add, ne_eq, not_false_eq_true, beq_self_eq_true, true_and, and_true, and_self, implies_true, forall_const, List.nil_append, List.cons_append, List.append_nil, Option.bind_some, List.getElem?_cons_zero, List.getElem?_cons_succ, Bool.false_eq_true, tab23, hN, el, wi, wk, t1, t2, ti, tk, eqb, c1, c2, c3, hv]
        try omega
      | false =>
        rw [c1, c2, c3] at hnd
        rw [hnd, Bool.or_self, Bool.or_self, Bool.not_false, Bool.true_and] at hv
        have sq : SmQ (pAt l i, pAt l k) := ⟨hm.at i, hm.at k⟩
        simp only [V_seq, V_skip, V_block, V_region, V_draw, V_cond, brW_false, drawW, WS_nil, pairsOf, W_nil, W_cons, effOp2, effOp3, WI_nil, WI_cons, KN_seq, dynOK, indB, farB, seeB, see, isStore, freshB, freshK, freshK1, heapy, asB, effOp, effPure, effPick, effNew, effAlloc, effStore, skipE, pureV, pickV, storeV, binV, partV, eltV, loadV, iaddrV, lenV, over, solid, buildL, IV.cells, ofC, strip, lkT, lkH, ISt.app, opI, gO, gB, allB, gval, wrapG, dstOK, setD, mentTm, mentHp, IV.ment, IV.mentL, oneI, enumT, Op.operands, Call.operands, List.append_toArray, reduceIte, reduceCtorEq, cond_true, cond_false, Bool.or_false, Bool.or_true, Bool.and_true, Bool.and_false, Bool.and_eq_true, Bool.not_false, Nat.reduceAdd, Nat.reduceLT, Nat.reduceLeDiff, Nat.reduceEqDiff, Nat.reduceBEq, Nat.zero_add, ne_eq, not_false_eq_true, beq_self_eq_true, true_and, and_true, false_and, and_false, and_self, implies_true, forall_const, List.map_cons, List.map_nil, List.nil_append, List.cons_append, List.append_nil, List.all_cons, List.all_nil, Option.bind_some, List.getElem?_cons_zero, List.getElem?_cons_succ, List.getD_cons_zero, List.getD_cons_succ, List.length_cons, List.length_nil, List.take_succ_cons, List.take_zero, List.take_nil, List.drop_succ_cons, List.drop_zero, List.drop_nil, Bool.false_eq_true, tab23, tab28, tab30, hN, el, wi, wk, t1, t2, ti, tk, eqb, c1, c2, c3, gi, gk]
        repeat refine And.intro (by omega) ?_
        refine V_loop (α := Nat) ⟨tabOK, mixed, gok_spec_isDiagonal, hok_spec_isDiagonal⟩ (by kernel_rfl) (fun m => m ≤ l.length ∧ ∀ c, c < m → okSp l i k c = true) (fun m => ⟨[(9, .num .i64 m), (8, .ptr 8 0), (7, .num .i64 l.length), (0, .sl 2 (encPs l)), (1, .num .i64 i), (2, .num .i64 k)], [(8, some (.box 30 [.num .i64 (pAt l i).1, .num .i64 (pAt l i).2, .num .i64 (pAt l k).1, .num .i64 (pAt l k).2]))]⟩) (fun m => l.length - m) 0 id ⟨Nat.zero_le _, fun c h => absurd h (Nat.not_lt_zero c)⟩ (by simp [SLe, SLe0, convTm, convHp, convB, conv, conv0, convL, lkT, lkH, clean]) ?_
        rintro m ⟨hml, hI⟩
        simp only [V_seq, V_region, V_cond, W_nil, W_cons, effOp2, KN_seq, asB, effOp, effPure, pureV, binV, strip, lkT, ISt.app, opI, gO, gB, allB, gval, wrapG, dstOK, setD, Op.operands, reduceIte, reduceCtorEq, Nat.reduceLT, Nat.reduceEqDiff, true_and, and_self, implies_true, List.nil_append, List.cons_append, hN]
        refine brW_some (fun h => ?_) (fun h => ?_)
        · have hm' : m < l.length := by simpa using h
          have hw := wr_succ hm' (by rw [maxLen_eq]; omega)
          have hmn : (m + 1) % l.length < l.length := Nat.mod_lt _ (by omega)
          have g1 := getD_encPs hm'
          have g2 := getD_encPs hmn
          have tm : ((m + 1 : Nat) : Int).tmod (l.length : Int) = (((m + 1) % l.length : Nat) : Int) := by rw [Int.tmod_eq_emod_of_nonneg (by omega)]; simp
          have tkm : Int.toNat (m : Int) = m := Int.toNat_natCast m
          have tkn : Int.toNat (((m + 1) % l.length : Nat) : Int) = (m + 1) % l.length := Int.toNat_natCast _
          have s0 := hm.edge m
          have s1 := hm.at m
          have s2 := hm.at ((m + 1) % l.length)
          have j1 : (m : Int) < (l.length : Int) := by omega
          have j3 : (0 : Int) ≤ (m : Int) := by omega
          have hmne : (m + 1) % l.length ≠ m := mod_ne (by omega) hm'
          have hok : okSp l i k m = if (decide (m = i) || decide (m = k)) || (decide ((m + 1) % l.length = i) || decide ((m + 1) % l.length = k)) then !(((!decide (m = i) && !decide (m = k)) && onS (pAt l i, pAt l k) (pAt l m)) || ((!decide ((m + 1) % l.length = i) && !decide ((m + 1) % l.length = k)) && onS (pAt l i, pAt l k) (pAt l ((m + 1) % l.length))))
            else relP (pAt l i, pAt l k) (edgeP l m) == 0 := rfl
          have hno : okSp l i k m = false → diagS l i k = false := fun h => by rw [hv, all_no hm' h]; rfl
          have q1 := of_decide_eq_false c1
          have q2 := of_decide_eq_false c2
          have q3 := of_decide_eq_false c3
          cases x1 : decide (m = i) with
          | true =>
            have r1 := of_decide_eq_true x1
            have x2 : decide (m = k) = false := decide_eq_false (fun e => q1 (by rw [← r1, e]))
            have x3 : decide ((m + 1) % l.length = i) = false := decide_eq_false (fun e => hmne (by rw [e, r1]))
            have x4 : decide ((m + 1) % l.length = k) = false := decide_eq_false (fun e => q2 (by rw [← e, r1]))
            simp only [x1, x2, x3, x4, Bool.or_false, Bool.false_or, Bool.not_true, Bool.not_false, Bool.false_and, Bool.true_and, Bool.and_true, if_true] at hok
            cases x5 : onS (pAt l i, pAt l k) (pAt l ((m + 1) % l.length)) with
            | true =>
              have hf : diagS l i k = false := hno (by rw [hok, x5]; rfl)
              simp only [V_seq, V_skip, V_ret, V_block, V_region, V_draw, V_cond, brW_true, drawW, WS_nil, pairsOf, W_nil, W_cons, effOp2, effOp3, WI_nil, WI_cons, KN_seq, KXr_nil, KXr_seq, KXr_block, KXr_back, QE, dynOK, indB, farB, freshB, freshK, freshK1, heapy, asB, effOp, effPure, effPick, effNew, effAlloc, effStore, effCall, giveUp, hasAll, skipE, pureV, pickV, storeV, binV, partV, eltV, loadV, iaddrV, over, solid, IV.cells, ofC, strip, lkT, lkH, ISt.app, opI, gO, gB, allB, gval, wrapG, dstOK, setD, mentTm, mentHp, IV.ment, IV.mentL, oneI, lendV, lendP, lent, lentP, idsV, idsL, lkHS, flat, flatL, clean, cleanL, callArgs, callFn, allLent, Gives, Ideal.Fin, conv, conv0, Op.operands, Call.operands, List.append_toArray, reduceIte, reduceCtorEq, cond_true, cond_false, Bool.or_false, Bool.or_true, Bool.and_true, Bool.and_eq_true, Bool.not_true, Bool.not_false, Nat.reduceAdd, Nat.reduceLT, Nat.reduceLeDiff, Nat.reduceEqDiff, Nat.reduceBEq, Nat.zero_add, ne_eq, not_false_eq_true, beq_self_eq_true, true_and, and_true, false_and, and_false, and_self, false_implies, implies_true, forall_const, List.map_cons, List.map_nil, List.nil_append, List.cons_append, List.append_nil, List.all_cons, List.all_nil, Option.bind_some, List.getElem?_cons_zero, List.getElem?_cons_succ, List.getD_cons_zero, List.getD_cons_succ, List.length_cons, List.length_nil, List.take_succ_cons, List.take_zero, List.take_nil, List.drop_succ_cons, List.drop_zero, List.drop_nil, ex_clo, bft, btf, or_self, Bool.true_eq_false, Bool.false_eq_true, tab23, tab28, tab30, hN, pe, encQ, isPs_enc, toPs_enc, lk_spec_isDiagonal_spec_edgeOf, lk_spec_isDiagonal_spec_onSegment, sp_spec_edgeOf, sp_spec_onSegment, el, hw, tm, tkm, tkn, g1, g2, s1, s2, j1, j3, hz, sq, eqb, neb, x1, x2, x3, x4, x5, hf]
              try omega
            | false =>
              have hy : okSp l i k m = true := by rw [hok, x5]; rfl
              simp only [V_seq, V_skip, V_block, V_region, V_draw, V_cond, brW_true, brW_false, drawW, WS_nil, pairsOf, W_nil, W_cons, effOp2, effOp3, WI_nil, WI_cons, KN_seq, KN_block, KN_back, dynOK, indB, farB, freshB, freshK, freshK1, heapy, asB, effOp, effPure, effPick, effNew, effAlloc, effStore, effCall, giveUp, hasAll, skipE, pureV, pickV, storeV, binV, partV, eltV, loadV, iaddrV, over, solid, IV.cells, ofC, strip, lkT, lkH, ISt.app, opI, gO, gB, allB, gval, wrapG, dstOK, setD, mentTm, mentHp, IV.ment, IV.mentL, oneI, lendV, lendP, lent, lentP, idsV, idsL, lkHS, flat, flatL, clean, cleanL, callArgs, callFn, allLent, Op.operands, Call.operands, List.append_toArray, reduceIte, reduceCtorEq, cond_true, cond_false, Bool.or_false, Bool.or_true, Bool.and_true, Bool.and_eq_true, Bool.not_true, Bool.not_false, Nat.reduceAdd, Nat.reduceLT, Nat.reduceLeDiff, Nat.reduceEqDiff, Nat.reduceBEq, Nat.zero_add, ne_eq, not_false_eq_true, beq_self_eq_true, true_and, and_true, false_and, and_false, and_self, false_implies, implies_true, forall_const, List.map_cons, List.map_nil, List.nil_append, List.cons_append, List.append_nil, List.all_cons, List.all_nil, Option.bind_some, List.getElem?_cons_zero, List.getElem?_cons_succ, List.getD_cons_zero, List.getD_cons_succ, List.length_cons, List.length_nil, List.take_succ_cons, List.take_zero, List.take_nil, List.drop_succ_cons, List.drop_zero, List.drop_nil, ex_clo, bft, btf, or_self, Bool.true_eq_false, Bool.false_eq_true, tab23, tab28, tab30, hN, pe, encQ, isPs_enc, toPs_enc, lk_spec_isDiagonal_spec_edgeOf, lk_spec_isDiagonal_spec_onSegment, sp_spec_edgeOf, sp_spec_onSegment, el, hw, tm, tkm, tkn, g1, g2, s1, s2, j1, j3, hz, sq, eqb, neb, x1, x2, x3, x4, x5]
              repeat refine And.intro (by first | omega | (simp; done) | (simp; omega)) ?_
              exact ⟨m + 1, id, ⟨by omega, lt_step hI hy⟩, by simp only []; omega, by simp [SLe, SLe0, convTm, convHp, convB, conv, conv0, convL, lkT, lkH, clean]⟩
          | false =>
            cases x2 : decide (m = k) with
            | true =>
              have r1 := of_decide_eq_true x2
              have x3 : decide ((m + 1) % l.length = i) = false := decide_eq_false (fun e => q3 (by rw [← e, r1]))
              have x4 : decide ((m + 1) % l.length = k) = false := decide_eq_false (fun e => hmne (by rw [e, r1]))
              simp only [x1, x2, x3, x4, Bool.or_true, Bool.or_false, Bool.false_or, Bool.not_true, Bool.not_false, Bool.and_false, Bool.false_and, Bool.true_and, Bool.and_true, if_true] at hok
              cases x5 : onS (pAt l i, pAt l k) (pAt l ((m + 1) % l.length)) with
              | true =>
                have hf : diagS l i k = false := hno (by rw [hok, x5]; rfl)
                simp only [V_seq, V_skip, V_ret, V_block, V_region, V_draw, V_cond, brW_true, drawW, WS_nil, pairsOf, W_nil, W_cons, effOp2, effOp3, WI_nil, WI_cons, KN_seq, KXr_nil, KXr_seq, KXr_block, KXr_back, QE, dynOK, indB, farB, freshB, freshK, freshK1, heapy, asB, effOp, effPure, effPick, effNew, effAlloc, effStore, effCall, giveUp, hasAll, skipE, pureV, pickV, storeV, binV, partV, eltV, loadV, iaddrV, over, solid, IV.cells, ofC, strip, lkT, lkH, ISt.app, opI, gO, gB, allB, gval, wrapG, dstOK, setD, mentTm, mentHp, IV.ment, IV.mentL, oneI, lendV, lendP, lent, lentP, idsV, idsL, lkHS, flat, flatL, clean, cleanL, callArgs, callFn, allLent, Gives, Ideal.Fin, conv, conv0, Op.operands, Call.operands, List.append_toArray, reduceIte, reduceCtorEq, cond_true, cond_false, Bool.or_false, Bool.or_true, Bool.and_true, Bool.and_eq_true, Bool.not_true, Bool.not_false, Nat.reduceAdd, Nat.reduceLT, Nat.reduceLeDiff, Nat.reduceEqDiff, Nat.reduceBEq, Nat.zero_add, ne_eq, not_false_eq_true, beq_self_eq_true, true_and, and_true, false_and, and_false, and_self, false_implies, implies_true, forall_const, List.map_cons, List.map_nil, List.nil_append, List.cons_append, List.append_nil, List.all_cons, List.all_nil, Option.bind_some, List.getElem?_cons_zero, List.getElem?_cons_succ, List.getD_cons_zero, List.getD_cons_succ, List.length_cons, List.length_nil, List.take_succ_cons, List.take_zero, List.take_nil, List.drop_succ_cons, List.drop_zero, List.drop_nil, ex_clo, bft, btf, or_self, Bool.true_eq_false, Bool.false_eq_true, tab23, tab28, tab30, hN, pe, encQ, isPs_enc, toPs_enc, lk_spec_isDiagonal_spec_edgeOf, lk_spec_isDiagonal_spec_onSegment, sp_spec_edgeOf, sp_spec_onSegment, el, hw, tm, tkm, tkn, g1, g2, s1, s2, j1, j3, hz, sq, eqb, neb, x1, x2, x3, x4, x5, hf]
                try omega
              | false =>
                have hy : okSp l i k m = true := by rw [hok, x5]; rfl
                simp only [V_seq, V_skip, V_block, V_region, V_draw, V_cond, brW_true, brW_false, drawW, WS_nil, pairsOf, W_nil, W_cons, effOp2, effOp3, WI_nil, WI_cons, KN_seq, KN_block, KN_back, dynOK, indB, farB, freshB, freshK, freshK1, heapy, asB, effOp, effPure, effPick, effNew, effAlloc, effStore, effCall, giveUp, hasAll, skipE, pureV, pickV, storeV, binV, partV, eltV, loadV, iaddrV, over, solid, IV.cells, ofC, strip, lkT, lkH, ISt.app, opI, gO, gB, allB, gval, wrapG, dstOK, setD, mentTm, mentHp, IV.ment, IV.mentL, oneI, lendV, lendP, lent, lentP, idsV, idsL, lkHS, flat, flatL, clean, cleanL, callArgs, callFn, allLent, Op.operands, Call.operands, List.append_toArray, reduceIte, reduceCtorEq, cond_true, cond_false, Bool.or_false, Bool.or_true, Bool.and_true, Bool.and_eq_true, Bool.not_true, Bool.not_false, Nat.reduceAdd, Nat.reduceLT, Nat.reduceLeDiff, Nat.reduceEqDiff, Nat.reduceBEq, Nat.zero_add, ne_eq, not_false_eq_true, beq_self_eq_true, true_and, and_true, false_and, and_false, and_self, false_implies, implies_true, forall_const, List.map_cons, List.map_nil, List.nil_append, List.cons_append, List.append_nil, List.all_cons, List.all_nil, Option.bind_some, List.getElem?_cons_zero, List.getElem?_cons_succ, List.getD_cons_zero, List.getD_cons_succ, List.length_cons, List.length_nil, List.take_succ_cons, List.take_zero, List.take_nil, List.drop_succ_cons, List.drop_zero, List.drop_nil, ex_clo, bft, btf, or_self, Bool.true_eq_false, Bool.false_eq_true, tab23, tab28, tab30, hN, pe, encQ, isPs_enc, toPs_enc, lk_spec_isDiagonal_spec_edgeOf, lk_spec_isDiagonal_spec_onSegment, sp_spec_edgeOf, sp_spec_onSegment, el, hw, tm, tkm, tkn, g1, g2, s1, s2, j1, j3, hz, sq, eqb, neb, x1, x2, x3, x4, x5]
                repeat refine And.intro (by first | omega | (simp; done) | (simp; omega)) ?_
                exact ⟨m + 1, id, ⟨by omega, lt_step hI hy⟩, by simp only []; omega, by simp [SLe, SLe0, convTm, convHp, convB, conv, conv0, convL, lkT, lkH, clean]⟩
            | false =>
              cases x3 : decide ((m + 1) % l.length = i) with
              | true =>
                have x4 : decide ((m + 1) % l.length = k) = false := decide_eq_false (fun e => q1 (by rw [← of_decide_eq_true x3, e]))
                simp only [x1, x2, x3, x4, Bool.or_true, Bool.or_false, Bool.not_true, Bool.not_false, Bool.false_and, Bool.true_and, Bool.and_true, if_true] at hok
                cases x5 : onS (pAt l i, pAt l k) (pAt l m) with
                | true =>
                  have hf : diagS l i k = false := hno (by rw [hok, x5]; rfl)
                  simp only [V_seq, V_skip, V_ret, V_block, V_region, V_draw, V_cond, brW_true, drawW, WS_nil, pairsOf, W_nil, W_cons, effOp2, effOp3, WI_nil, WI_cons, KN_seq, KXr_nil, KXr_seq, KXr_block, KXr_back, QE, dynOK, indB, farB, freshB, freshK, freshK1, heapy, asB, effOp, effPure, effPick, effNew, effAlloc, effStore, effCall, giveUp, hasAll, skipE, pureV, pickV, storeV, binV, partV, eltV, loadV, iaddrV, over, solid, IV.cells, ofC, strip, lkT, lkH, ISt.app, opI, gO, gB, allB, gval, wrapG, dstOK, setD, mentTm, mentHp, IV.ment, IV.mentL, oneI, lendV, lendP, lent, lentP, idsV, idsL, lkHS, flat, flatL, clean, cleanL, callArgs, callFn, allLent, Gives, Ideal.Fin, conv, conv0, Op.operands, Call.operands, List.append_toArray, reduceIte, reduceCtorEq, cond_true, cond_false, Bool.or_false, Bool.or_true, Bool.and_true, Bool.and_false, Bool.and_eq_true, Bool.not_true, Bool.not_false, Nat.reduceAdd, Nat.reduceLT, Nat.reduceLeDiff, Nat.reduceEqDiff, Nat.reduceBEq, Nat.zero_add, ne_eq, not_false_eq_true, beq_self_eq_true, true_and, and_true, false_and, and_false, and_self, false_implies, implies_true, forall_const, List.map_cons, List.map_nil, List.nil_append, List.cons_append, List.append_nil, List.all_cons, List.all_nil, Option.bind_some, List.getElem?_cons_zero, List.getElem?_cons_succ, List.getD_cons_zero, List.getD_cons_succ, List.length_cons, List.length_nil, List.take_succ_cons, List.take_zero, List.take_nil, List.drop_succ_cons, List.drop_zero, List.drop_nil, ex_clo, bft, btf, or_self, Bool.true_eq_false, Bool.false_eq_true, tab23, tab28, tab30, hN, pe, encQ, isPs_enc, toPs_enc, lk_spec_isDiagonal_spec_edgeOf, lk_spec_isDiagonal_spec_onSegment, sp_spec_edgeOf, sp_spec_onSegment, el, hw, tm, tkm, tkn, g1, g2, s1, s2, j1, j3, hz, sq, eqb, neb, x1, x2, x3, x4, x5, hf]
                  try omega
                | false =>
                  have hy : okSp l i k m = true := by rw [hok, x5]; rfl
                  simp only [V_seq, V_skip, V_block, V_region, V_draw, V_cond, brW_true, brW_false, drawW, WS_nil, pairsOf, W_nil, W_cons, effOp2, effOp3, WI_nil, WI_cons, KN_seq, KN_block, KN_back, dynOK, indB, farB, freshB, freshK, freshK1, heapy, asB, effOp, effPure, effPick, effNew, effAlloc, effStore, effCall, giveUp, hasAll, skipE, pureV, pickV, storeV, binV, partV, eltV, loadV, iaddrV, over, solid, IV.cells, ofC, strip, lkT, lkH, ISt.app, opI, gO, gB, allB, gval, wrapG, dstOK, setD, mentTm, mentHp, IV.ment, IV.mentL, oneI, lendV, lendP, lent, lentP, idsV, idsL, lkHS, flat, flatL, clean, cleanL, callArgs, callFn, allLent, Op.operands, Call.operands, List.append_toArray, reduceIte, reduceCtorEq, cond_true, cond_false, Bool.or_false, Bool.or_true, Bool.and_true, Bool.and_false, Bool.and_eq_true, Bool.not_true, Bool.not_false, Nat.reduceAdd, Nat.reduceLT, Nat.reduceLeDiff, Nat.reduceEqDiff, Nat.reduceBEq, Nat.zero_add, ne_eq, not_false_eq_true, beq_self_eq_true, true_and, and_true, false_and, and_false, and_self, false_implies, implies_true, forall_const, List.map_cons, List.map_nil, List.nil_append, List.cons_append, List.append_nil, List.all_cons, List.all_nil, Option.bind_some, List.getElem?_cons_zero, List.getElem?_cons_succ, List.getD_cons_zero, List.getD_cons_succ, List.length_cons, List.length_nil, List.take_succ_cons, List.take_zero, List.take_nil, List.drop_succ_cons, List.drop_zero, List.drop_nil, ex_clo, bft, btf, or_self, Bool.true_eq_false, Bool.false_eq_true, tab23, tab28, tab30, hN, pe, encQ, isPs_enc, toPs_enc, lk_spec_isDiagonal_spec_edgeOf, lk_spec_isDiagonal_spec_onSegment, sp_spec_edgeOf, sp_spec_onSegment, el, hw, tm, tkm, tkn, g1, g2, s1, s2, j1, j3, hz, sq, eqb, neb, x1, x2, x3, x4, x5]
                  repeat refine And.intro (by first | omega | (simp; done) | (simp; omega)) ?_
                  exact ⟨m + 1, id, ⟨by omega, lt_step hI hy⟩, by simp only []; omega, by simp [SLe, SLe0, convTm, convHp, convB, conv, conv0, convL, lkT, lkH, clean]⟩
              | false =>
                cases x4 : decide ((m + 1) % l.length = k) with
                | true =>
                  simp only [x1, x2, x3, x4, Bool.or_true, Bool.or_false, Bool.not_true, Bool.not_false, Bool.and_false, Bool.false_and, Bool.true_and, Bool.and_true, if_true] at hok
                  cases x5 : onS (pAt l i, pAt l k) (pAt l m) with
                  | true =>
                    have hf : diagS l i k = false := hno (by rw [hok, x5]; rfl)
                    simp only [V_seq, V_skip, V_ret, V_block, V_region, V_draw, V_cond, brW_true, drawW, WS_nil, pairsOf, W_nil, W_cons, effOp2, effOp3, WI_nil, WI_cons, KN_seq, KXr_nil, KXr_seq, KXr_block, KXr_back, QE, dynOK, indB, farB, freshB, freshK, freshK1, heapy, asB, effOp, effPure, effPick, effNew, effAlloc, effStore, effCall, giveUp, hasAll, skipE, pureV, pickV, storeV, binV, partV, eltV, loadV, iaddrV, over, solid, IV.cells, ofC, strip, lkT, lkH, ISt.app, opI, gO, gB, allB, gval, wrapG, dstOK, setD, mentTm, mentHp, IV.ment, IV.mentL, oneI, lendV, lendP, lent, lentP, idsV, idsL, lkHS, flat, flatL, clean, cleanL, callArgs, callFn, allLent, Gives, Ideal.Fin, conv, conv0, Op.operands, Call.operands, List.append_toArray, reduceIte, reduceCtorEq, cond_true, cond_false, Bool.or_false, Bool.or_true, Bool.and_true, Bool.and_false, Bool.and_eq_true, Bool.not_true, Bool.not_false, Nat.reduceAdd, Nat.reduceLT, Nat.reduceLeDiff, Nat.reduceEqDiff, Nat.reduceBEq, Nat.zero_add, ne_eq, not_false_eq_true, beq_self_eq_true, true_and, and_true, false_and, and_false, and_self, false_implies, implies_true, forall_const, List.map_cons, List.map_nil, List.nil_append, List.cons_append, List.append_nil, List.all_cons, List.all_nil, Option.bind_some, List.getElem?_cons_zero, List.getElem?_cons_succ, List.getD_cons_zero, List.getD_cons_succ, List.length_cons, List.length_nil, List.take_succ_cons, List.take_zero, List.take_nil, List.drop_succ_cons, List.drop_zero, List.drop_nil, ex_clo, bft, btf, or_self, Bool.true_eq_false, Bool.false_eq_true, tab23, tab28, tab30, hN, pe, encQ, isPs_enc, toPs_enc, lk_spec_isDiagonal_spec_edgeOf, lk_spec_isDiagonal_spec_onSegment, sp_spec_edgeOf, sp_spec_onSegment, el, hw, tm, tkm, tkn, g1, g2, s1, s2, j1, j3, hz, sq, eqb, neb, x1, x2, x3, x4, x5, hf]
                    try omega
                  | false =>
                    have hy : okSp l i k m = true := by rw [hok, x5]; rfl
                    simp only [V_seq, V_skip, V_block, V_region, V_draw, V_cond, brW_true, brW_false, drawW, WS_nil, pairsOf, W_nil, W_cons, effOp2, effOp3, WI_nil, WI_cons, KN_seq, KN_block, KN_back, dynOK, indB, farB, freshB, freshK, freshK1, heapy, asB, effOp, effPure, effPick, effNew, effAlloc, effStore, effCall, giveUp, hasAll, skipE, pureV, pickV, storeV, binV, partV, eltV, loadV, iaddrV, over, solid, IV.cells, ofC, strip, lkT, lkH, ISt.app, opI, gO, gB, allB, gval, wrapG, dstOK, setD, mentTm, mentHp, IV.ment, IV.mentL, oneI, lendV, lendP, lent, lentP, idsV, idsL, lkHS, flat, flatL, clean, cleanL, callArgs, callFn, allLent, Op.operands, Call.operands, List.append_toArray, reduceIte, reduceCtorEq, cond_true, cond_false, Bool.or_false, Bool.or_true, Bool.and_true, Bool.and_false, Bool.and_eq_true, Bool.not_true, Bool.not_false, Nat.reduceAdd, Nat.reduceLT, Nat.reduceLeDiff, Nat.reduceEqDiff, Nat.reduceBEq, Nat.zero_add, ne_eq, not_false_eq_true, beq_self_eq_true, true_and, and_true, false_and, and_false, and_self, false_implies, implies_true, forall_const, List.map_cons, List.map_nil, List.nil_append, List.cons_append, List.append_nil, List.all_cons, List.all_nil, Option.bind_some, List.getElem?_cons_zero, List.getElem?_cons_succ, List.getD_cons_zero, List.getD_cons_succ, List.length_cons, List.length_nil, List.take_succ_cons, List.take_zero, List.take_nil, List.drop_succ_cons, List.drop_zero, List.drop_nil, ex_clo, bft, or_self, Bool.true_eq_false, Bool.false_eq_true, tab23, tab28, tab30, hN, pe, encQ, isPs_enc, toPs_enc, lk_spec_isDiagonal_spec_edgeOf, lk_spec_isDiagonal_spec_onSegment, sp_spec_edgeOf, sp_spec_onSegment, el, hw, tm, tkm, tkn, g1, g2, s1, s2, j1, j3, hz, sq, eqb, neb, x1, x2, x3, x4, x5]
                    repeat refine And.intro (by first | omega | (simp; done) | (simp; omega)) ?_
                    exact ⟨m + 1, id, ⟨by omega, lt_step hI hy⟩, by simp only []; omega, by simp [SLe, SLe0, convTm, convHp, convB, conv, conv0, convL, lkT, lkH, clean]⟩
                | false =>
                  simp only [x1, x2, x3, x4, Bool.or_false, Bool.not_false, Bool.true_and, Bool.and_true, Bool.false_eq_true, if_false] at hok
                  obtain ⟨e, he⟩ : ∃ e, edgeP l m = e := ⟨_, rfl⟩
                  rw [he] at s0 hok
                  cases x5 : (relP (pAt l i, pAt l k) e != 0) with
                  | true =>
                    have hf : diagS l i k = false := hno (by rw [hok]; simp at x5 ⊢; omega)
                    simp only [V_seq, V_skip, V_ret, V_block, V_region, V_cond, brW_true, brW_false, W_nil, W_cons, effOp2, KN_seq, KXr_nil, KXr_seq, KXr_block, KXr_back, QE, asB, effOp, effPure, effPick, effNew, effAlloc, effStore, effCall, giveUp, hasAll, skipE, pureV, pickV, storeV, binV, partV, loadV, over, solid, IV.cells, ofC, strip, lkT, lkH, ISt.app, opI, gO, gB, allB, gval, wrapG, dstOK, setD, mentTm, mentHp, IV.ment, IV.mentL, oneI, lendV, lendP, lent, lentP, idsV, idsL, lkHS, flat, flatL, clean, cleanL, callArgs, callFn, allLent, Gives, Ideal.Fin, conv, conv0, Op.operands, reduceIte, reduceCtorEq, cond_true, cond_false, Bool.or_false, Bool.and_true, Bool.not_true, Nat.reduceAdd, Nat.reduceLT, Nat.reduceLeDiff, Nat.reduceEqDiff, Nat.reduceBEq, Nat.zero_add, ne_eq, beq_self_eq_true, true_and, and_true, and_false, and_self, implies_true, forall_const, List.map_cons, List.map_nil, List.nil_append, List.cons_append, List.append_nil, List.all_cons, List.all_nil, Option.bind_some, List.getElem?_cons_zero, List.getElem?_cons_succ, List.getD_cons_zero, List.length_cons, List.length_nil, List.take_succ_cons, List.take_zero, List.take_nil, List.drop_succ_cons, List.drop_zero, List.drop_nil, ex_clo, or_self, Bool.false_eq_true, tab30, hN, pe, encQ, isPs_enc, toPs_enc, lk_spec_isDiagonal_spec_edgeOf, lk_spec_isDiagonal_spec_relation, sp_spec_edgeOf, sp_spec_relation, hw, tm, tkm, s0, j1, j3, hz, sq, eqb, he, x1, x2, x3, x4, x5, hf]
                    try omega
                  | false =>
                    have hy : okSp l i k m = true := by rw [hok]; simp at x5 ⊢; omega
                    simp only [V_seq, V_skip, V_block, V_region, V_cond, brW_false, W_nil, W_cons, effOp2, KN_seq, KN_block, KN_back, asB, effOp, effPure, effPick, effNew, effAlloc, effStore, effCall, giveUp, hasAll, skipE, pureV, pickV, storeV, binV, partV, loadV, over, solid, IV.cells, ofC, strip, lkT, lkH, ISt.app, opI, gO, gB, allB, gval, wrapG, dstOK, setD, mentTm, mentHp, IV.ment, IV.mentL, oneI, lendV, lendP, lent, lentP, idsV, idsL, lkHS, flat, flatL, clean, cleanL, callArgs, callFn, allLent, Op.operands, reduceIte, reduceCtorEq, cond_true, cond_false, Bool.or_false, Bool.and_true, Bool.not_true, Nat.reduceAdd, Nat.reduceLT, Nat.reduceLeDiff, Nat.reduceEqDiff, Nat.reduceBEq, Nat.zero_add, ne_eq, beq_self_eq_true, true_and, and_false, and_self, implies_true, forall_const, List.map_cons, List.map_nil, List.nil_append, List.cons_append, List.append_nil, List.all_cons, List.all_nil, Option.bind_some, List.getElem?_cons_zero, List.getElem?_cons_succ, List.getD_cons_zero, List.length_cons, List.length_nil, List.take_succ_cons, List.take_zero, List.take_nil, List.drop_succ_cons, List.drop_zero, List.drop_nil, ex_clo, or_self, Bool.false_eq_true, tab30, hN, pe, encQ, isPs_enc, toPs_enc, lk_spec_isDiagonal_spec_edgeOf, lk_spec_isDiagonal_spec_relation, sp_spec_edgeOf, sp_spec_relation, hw, tm, tkm, s0, j1, j3, hz, sq, eqb, he, x1, x2, x3, x4, x5]
                    repeat refine And.intro (by first | omega | (simp; done) | (simp; omega)) ?_
                    exact ⟨m + 1, id, ⟨by omega, lt_step hI hy⟩, by simp only []; omega, by simp [SLe, SLe0, convTm, convHp, convB, conv, conv0, convL, lkT, lkH, clean]⟩
        · have hie : m = l.length := by simp at h; omega
          subst hie
          have hall := all_yes hI
          rw [hall, Bool.true_and] at hv
          have hp1 := pl_ring hi
          have hp2 := ring_cone (k := k) hi
          have hlt := rg_lt (decide (areaP l < 0)) hi
          have hrl : (ringL l).length = l.length := by rw [ringL, ringN_len]
          have hrm := ring_mem (l := l)
          have hrz : (ringL l).length ≤ 1000000 := by omega
          have skk := hm.at k
          rw [← hp2] at hv
          obtain ⟨r, hr⟩ : ∃ r, rgF l.length (decide (areaP l < 0)) i = r := ⟨_, rfl⟩
          rw [hr] at hp1 hlt hv
          have tr : Int.toNat (r : Int) = r := Int.toNat_natCast r
          have u1 : (0 : Int) ≤ (r : Int) := by omega
          have u2 : (r : Int) < ((ringL l).length : Int) := by omega
          simp only [V_seq, V_ret, V_exit, V_region, V_draw, drawW, WS_nil, pairsOf, W_nil, W_cons, effOp2, effOp3, WI_nil, WI_cons, KN_seq, KXr_nil, KXe_nil, KXe_seq, KXe_block, KXe_back, QE, dynOK, indB, farB, freshB, freshK, freshK1, heapy, effOp, effPure, effCall, giveUp, hasAll, pureV, partV, eltV, loadV, iaddrV, strip, lkT, lkH, ISt.app, opI, gO, gB, allB, gval, wrapG, dstOK, setD, mentTm, mentHp, IV.ment, IV.mentL, lendV, lendP, lent, lentP, idsV, idsL, lkHS, flat, clean, callArgs, callFn, allLent, Gives, Ideal.Fin, conv, conv0, Op.operands, Call.operands, List.append_toArray, reduceIte, reduceCtorEq, cond_true, cond_false, Bool.or_false, Bool.or_true, Bool.and_true, Bool.and_eq_true, Bool.not_true, Bool.not_false, Nat.reduceAdd, Nat.reduceLT, Nat.reduceLeDiff, Nat.reduceEqDiff, Nat.reduceBEq, Nat.zero_add, ne_eq, not_false_eq_true, true_and, and_true, and_false, and_self, implies_true, forall_const, List.map_cons, List.map_nil, List.nil_append, List.cons_append, List.append_nil, List.getD_cons_zero, List.getD_cons_succ, List.length_cons, List.length_nil, List.take_succ_cons, List.take_zero, List.take_nil, List.drop_zero, ex_clo, or_self, tab23, tab28, hN, pe, isPs_enc, toPs_enc, isIs_enc, toIs_enc, lk_spec_isDiagonal_spec_ringOf_v, lk_spec_isDiagonal_spec_placeOf, lk_spec_isDiagonal_spec_inCone, sp_spec_ringOf_v, sp_spec_placeOf, sp_spec_inCone, el, hz, gk, tk, tr, hm, skk, hp1, hrz, u1, u2, hv]
          exact ⟨⟨by omega, by omega⟩, hrm⟩
def sp_spec_isDiagonal : PSpec := ⟨fun xs => match xs with | [.sl 2 les, .num .i64 a, .num .i64 b] => isPs les ∧ ((fun (l : List Pt) (a : Int) (b : Int) => simpB l = true) (toPs les) a b) ∧ ((fun (l : List Pt) (a : Int) (b : Int) => 0 ≤ a) (toPs les) a b) ∧ ((fun (l : List Pt) (a : Int) (b : Int) => a < l.length) (toPs les) a b) ∧ ((fun (l : List Pt) (a : Int) (b : Int) => 0 ≤ b) (toPs les) a b) ∧ ((fun (l : List Pt) (a : Int) (b : Int) => b < l.length) (toPs les) a b) | _ => False, fun xs => match xs with | [.sl _ les, .num _ a, .num _ b] => (fun (l : List Pt) (a : Int) (b : Int) => .bool (diagS l a.toNat b.toNat)) (toPs les) a b | _ => .junk, false⟩
theorem gk_spec_isDiagonal : ∀ args, sp_spec_isDiagonal.pre args → ICall Try.prog 51 args (sp_spec_isDiagonal.val args) := by
  intro args h
  unfold sp_spec_isDiagonal at h ⊢; simp only at h ⊢; split at h
  · obtain ⟨h0, h1, h2, h3, h4, h5⟩ := h
    obtain ⟨l0, rfl⟩ := isP_ex h0
    simp only [toPs_enc] at *
    exact c_spec_isDiagonal _ _ _ h1 h2 h3 h4 h5
  · exact h.elim
theorem en_spec_isDiagonal : Enters Try.prog 51 := enters_of Try.func51 (by kernel_rfl) rfl


/-! both functions, for all arguments -/
def vinB (l : List Pt) (a b : Int) : Bool := simpB l && (inR a 0 ((l.length : Int) - 1) && inR b 0 ((l.length : Int) - 1))
def dgB (l : List Pt) (a b : Int) : Bool := vinB l a b && diagS l a.toNat b.toNat
theorem inR_facts {l : List Pt} {a : Int} (h : inR a 0 ((l.length : Int) - 1) = true) : 0 ≤ a ∧ a < (l.length : Int) := by
  simp only [inR, Bool.and_eq_true, decide_eq_true_eq] at h; omega
def g_impl_verticesIn : List (Nat × PSpec) := [(36, sp_impl_simple), (69, sp_impl_within)]
theorem gok_impl_verticesIn : GOK Try.prog g_impl_verticesIn := gok_cons gk_impl_simple en_impl_simple (gok_cons gk_impl_within en_impl_within (gok0))
theorem lk_impl_verticesIn_impl_simple : lkG g_impl_verticesIn 36 = sp_impl_simple := rfl
theorem lk_impl_verticesIn_impl_within : lkG g_impl_verticesIn 69 = sp_impl_within := rfl
def h_impl_verticesIn : List (Nat × HSpec) := []
theorem hok_impl_verticesIn : HOK Try.prog h_impl_verticesIn := hok0
theorem c_impl_verticesIn (l : List Pt) (a : Int) (b : Int)  : ICall Try.prog 53 [.sl 2 (encPs l), .num .i64 a, .num .i64 b] (.bool (vinB l a b)) := by
  refine icall_V (G := g_impl_verticesIn) (H := []) [] tabOK mixed gok_impl_verticesIn hok_impl_verticesIn Try.func53 rfl Try.ntmps53 Try.results53 rfl (by kernel_rfl) fun F hN hlen => ?_
  have el := len_encPs l
  have hl := hlen 0 2 _ rfl
  rw [el, maxLen_eq] at hl
  have w1 : IntKind.i64.wrap ((l.length : Int) - 1) = (l.length : Int) - 1 := wr (by omega) (by omega)
  have hv : vinB l a b = (simpB l && (inR a 0 ((l.length : Int) - 1) && inR b 0 ((l.length : Int) - 1))) := rfl
  cases c1 : simpB l with
  | false =>
    rw [c1] at hv
    simp only [V_seq, V_ret, V_region, W_nil, W_cons, effOp2, KN_seq, KXr_nil, QE, effOp, effPure, effPick, effCall, giveUp, hasAll, pureV, pickV, binV, lenV, ofC, strip, lkT, lkH, ISt.app, opI, gO, gB, allB, gval, wrapG, dstOK, setD, lendV, lendP, lent, lentP, idsV, idsL, lkHS, flat, clean, callArgs, callFn, allLent, enumT, Gives, Ideal.Fin, conv, conv0, Op.operands, Call.operands, List.append_toArray, reduceIte, reduceCtorEq, cond_true, cond_false, Bool.or_false, Bool.or_true, Bool.false_and, Bool.not_true, Bool.not_false, Nat.reduceAdd, Nat.reduceLT, Nat.reduceEqDiff, Nat.zero_add, ne_eq, not_false_eq_true, and_true, and_false, and_self, false_implies, implies_true, List.map_cons, List.map_nil, List.nil_append, List.cons_append, List.append_nil, Option.bind_some, List.getElem?_cons_zero, List.getElem?_cons_succ, ex_clo, bft, or_self, Bool.false_eq_true, tab23, hN, isPs_enc, toPs_enc, lk_impl_verticesIn_impl_simple, lk_impl_verticesIn_impl_within, sp_impl_simple, sp_impl_within, el, w1, c1, hv]
  | true =>
    cases c2 : inR a 0 ((l.length : Int) - 1) with
    | false =>
      rw [c1, c2] at hv
      simp only [V_seq, V_ret, V_region, W_nil, W_cons, effOp2, KN_seq, KXr_nil, QE, effOp, effPure, effPick, effCall, giveUp, hasAll, pureV, pickV, binV, lenV, ofC, strip, lkT, lkH, ISt.app, opI, gO, gB, allB, gval, wrapG, dstOK, setD, lendV, lendP, lent, lentP, idsV, idsL, lkHS, flat, clean, callArgs, callFn, allLent, enumT, Gives, Ideal.Fin, conv, conv0, Op.operands, Call.operands, List.append_toArray, reduceIte, reduceCtorEq, cond_true, cond_false, Bool.or_false, Bool.or_true, Bool.and_false, Bool.false_and, Bool.not_true, Bool.not_false, Nat.reduceAdd, Nat.reduceLT, Nat.reduceEqDiff, Nat.zero_add, ne_eq, not_false_eq_true, beq_self_eq_true, and_true, and_false, and_self, false_implies, implies_true, List.map_cons, List.map_nil, List.nil_append, List.cons_append, List.append_nil, Option.bind_some, List.getElem?_cons_zero, List.getElem?_cons_succ, ex_clo, bft, or_self, Bool.true_eq_false, Bool.false_eq_true, tab23, hN, isPs_enc, toPs_enc, lk_impl_verticesIn_impl_simple, lk_impl_verticesIn_impl_within, sp_impl_simple, sp_impl_within, el, w1, c1, c2, hv]
    | true =>
      rw [c1, c2] at hv
      simp only [V_seq, V_ret, V_region, W_nil, W_cons, effOp2, KN_seq, KXr_nil, QE, effOp, effPure, effPick, effCall, giveUp, hasAll, pureV, pickV, binV, lenV, ofC, strip, lkT, lkH, ISt.app, opI, gO, gB, allB, gval, wrapG, dstOK, setD, lendV, lendP, lent, lentP, idsV, idsL, lkHS, flat, clean, callArgs, callFn, allLent, enumT, Gives, Ideal.Fin, conv, conv0, Op.operands, Call.operands, List.append_toArray, reduceIte, reduceCtorEq, cond_true, Bool.or_false, Bool.true_and, Bool.not_true, Nat.reduceAdd, Nat.reduceLT, Nat.reduceEqDiff, Nat.zero_add, ne_eq, not_false_eq_true, beq_self_eq_true, and_self, implies_true, List.map_cons, List.map_nil, List.nil_append, List.cons_append, List.append_nil, Option.bind_some, List.getElem?_cons_zero, List.getElem?_cons_succ, ex_clo, or_self, Bool.true_eq_false, tab23, hN, isPs_enc, toPs_enc, lk_impl_verticesIn_impl_simple, lk_impl_verticesIn_impl_within, sp_impl_simple, sp_impl_within, el, w1, c1, c2, hv]
def sp_impl_verticesIn : PSpec := ⟨fun xs => match xs with | [.sl 2 les, .num .i64 a, .num .i64 b] => isPs les | _ => False, fun xs => match xs with | [.sl _ les, .num _ a, .num _ b] => (fun (l : List Pt) (a : Int) (b : Int) => .bool (vinB l a b)) (toPs les) a b | _ => .junk, false⟩
theorem gk_impl_verticesIn : ∀ args, sp_impl_verticesIn.pre args → ICall Try.prog 53 args (sp_impl_verticesIn.val args) := by
  intro args h
  unfold sp_impl_verticesIn at h ⊢; simp only at h ⊢; split at h
  · have h0 := h
    obtain ⟨l0, rfl⟩ := isP_ex h0
    simp only [toPs_enc] at *
    exact c_impl_verticesIn _ _ _ 
  · exact h.elim
theorem en_impl_verticesIn : Enters Try.prog 53 := enters_of Try.func53 (by kernel_rfl) rfl

def g_impl_IsDiagonal : List (Nat × PSpec) := [(53, sp_impl_verticesIn), (54, sp_impl_diagonal)]
theorem gok_impl_IsDiagonal : GOK Try.prog g_impl_IsDiagonal := gok_cons gk_impl_verticesIn en_impl_verticesIn (gok_cons gk_impl_diagonal en_impl_diagonal (gok0))
theorem lk_impl_IsDiagonal_impl_verticesIn : lkG g_impl_IsDiagonal 53 = sp_impl_verticesIn := rfl
theorem lk_impl_IsDiagonal_impl_diagonal : lkG g_impl_IsDiagonal 54 = sp_impl_diagonal := rfl
def h_impl_IsDiagonal : List (Nat × HSpec) := []
theorem hok_impl_IsDiagonal : HOK Try.prog h_impl_IsDiagonal := hok0
theorem c_impl_IsDiagonal (l : List Pt) (a : Int) (b : Int)  : ICall Try.prog 22 [.sl 2 (encPs l), .num .i64 a, .num .i64 b] (.bool (dgB l a b)) := by
  refine icall_V (G := g_impl_IsDiagonal) (H := []) [] tabOK mixed gok_impl_IsDiagonal hok_impl_IsDiagonal Try.func22 rfl Try.ntmps22 Try.results22 rfl (by kernel_rfl) fun F hN hlen => ?_
  have hv : dgB l a b = (vinB l a b && diagS l a.toNat b.toNat) := rfl
  cases c1 : vinB l a b with
  | false =>
    rw [c1] at hv
    simp only [V_seq, V_ret, V_region, W_nil, W_cons, effOp2, KN_seq, KXr_nil, QE, effOp, effPure, effPick, effCall, giveUp, hasAll, pureV, pickV, ofC, strip, lkT, lkH, ISt.app, opI, gO, gB, allB, gval, wrapG, dstOK, setD, lendV, lendP, lent, lentP, idsV, idsL, lkHS, flat, clean, callArgs, callFn, allLent, enumT, Gives, Ideal.Fin, conv, conv0, Op.operands, reduceIte, reduceCtorEq, cond_true, cond_false, Bool.or_false, Bool.or_true, Bool.false_and, Bool.not_true, Bool.not_false, Nat.reduceAdd, Nat.reduceLT, Nat.reduceEqDiff, Nat.zero_add, true_and, and_true, false_and, and_false, and_self, false_implies, implies_true, List.map_cons, List.map_nil, List.nil_append, List.cons_append, List.append_nil, Option.bind_some, List.getElem?_cons_zero, List.getElem?_cons_succ, ex_clo, bft, or_self, Bool.false_eq_true, hN, isPs_enc, toPs_enc, lk_impl_IsDiagonal_impl_verticesIn, lk_impl_IsDiagonal_impl_diagonal, sp_impl_verticesIn, sp_impl_diagonal, c1, hv]
  | true =>
    have c := c1
    simp only [vinB, Bool.and_eq_true] at c
    obtain ⟨hs, h1, h2⟩ := c
    obtain ⟨a0, a1⟩ := inR_facts h1
    obtain ⟨b0, b1⟩ := inR_facts h2
    have he : diagI l a.toNat b.toNat = diagS l a.toNat b.toNat := diag_eq hs (by omega) (by omega)
    rw [c1] at hv
    simp only [V_seq, V_ret, V_region, W_nil, W_cons, effOp2, KN_seq, KXr_nil, QE, effOp, effPure, effPick, effCall, giveUp, hasAll, pureV, pickV, ofC, strip, lkT, lkH, ISt.app, opI, gO, gB, allB, gval, wrapG, dstOK, setD, lendV, lendP, lent, lentP, idsV, idsL, lkHS, flat, clean, callArgs, callFn, allLent, enumT, Gives, Ideal.Fin, conv, conv0, Op.operands, reduceIte, reduceCtorEq, cond_true, Bool.or_false, Bool.true_and, Bool.not_true, Nat.reduceAdd, Nat.reduceLT, Nat.reduceEqDiff, Nat.zero_add, beq_self_eq_true, and_self, implies_true, List.map_cons, List.map_nil, List.nil_append, List.cons_append, List.append_nil, Option.bind_some, List.getElem?_cons_zero, List.getElem?_cons_succ, ex_clo, or_self, Bool.true_eq_false, hN, isPs_enc, toPs_enc, lk_impl_IsDiagonal_impl_verticesIn, lk_impl_IsDiagonal_impl_diagonal, sp_impl_verticesIn, sp_impl_diagonal, c1, hs, a0, a1, b0, b1, he, hv]
def sp_impl_IsDiagonal : PSpec := ⟨fun xs => match xs with | [.sl 2 les, .num .i64 a, .num .i64 b] => isPs les | _ => False, fun xs => match xs with | [.sl _ les, .num _ a, .num _ b] => (fun (l : List Pt) (a : Int) (b : Int) => .bool (dgB l a b)) (toPs les) a b | _ => .junk, false⟩
theorem gk_impl_IsDiagonal : ∀ args, sp_impl_IsDiagonal.pre args → ICall Try.prog 22 args (sp_impl_IsDiagonal.val args) := by
  intro args h
  unfold sp_impl_IsDiagonal at h ⊢; simp only at h ⊢; split at h
  · have h0 := h
    obtain ⟨l0, rfl⟩ := isP_ex h0
    simp only [toPs_enc] at *
    exact c_impl_IsDiagonal _ _ _ 
  · exact h.elim
theorem en_impl_IsDiagonal : Enters Try.prog 22 := enters_of Try.func22 (by kernel_rfl) rfl

def g_spec_IsDiagonal : List (Nat × PSpec) := [(37, sp_spec_isSimple), (50, sp_spec_inRange), (51, sp_spec_isDiagonal)]
theorem gok_spec_IsDiagonal : GOK Try.prog g_spec_IsDiagonal := gok_cons gk_spec_isSimple en_spec_isSimple (gok_cons gk_spec_inRange en_spec_inRange (gok_cons gk_spec_isDiagonal en_spec_isDiagonal (gok0)))
theorem lk_spec_IsDiagonal_spec_isSimple : lkG g_spec_IsDiagonal 37 = sp_spec_isSimple := rfl
theorem lk_spec_IsDiagonal_spec_inRange : lkG g_spec_IsDiagonal 50 = sp_spec_inRange := rfl
theorem lk_spec_IsDiagonal_spec_isDiagonal : lkG g_spec_IsDiagonal 51 = sp_spec_isDiagonal := rfl
def h_spec_IsDiagonal : List (Nat × HSpec) := []
theorem hok_spec_IsDiagonal : HOK Try.prog h_spec_IsDiagonal := hok0
theorem c_spec_IsDiagonal (l : List Pt) (a : Int) (b : Int)  : ICall Try.prog 20 [.sl 2 (encPs l), .num .i64 a, .num .i64 b] (.bool (dgB l a b)) := by
  refine icall_V (G := g_spec_IsDiagonal) (H := []) [] tabOK mixed gok_spec_IsDiagonal hok_spec_IsDiagonal Try.func20 rfl Try.ntmps20 Try.results20 rfl (by kernel_rfl) fun F hN hlen => ?_
  have el := len_encPs l
  have hl := hlen 0 2 _ rfl
  rw [el, maxLen_eq] at hl
  have w1 : IntKind.i64.wrap ((l.length : Int) - 1) = (l.length : Int) - 1 := wr (by omega) (by omega)
  have hv : dgB l a b = ((simpB l && (inR a 0 ((l.length : Int) - 1) && inR b 0 ((l.length : Int) - 1))) && diagS l a.toNat b.toNat) := rfl
  cases c1 : simpB l with
  | false =>
    rw [c1] at hv
    simp only [V_seq, V_ret, V_region, W_nil, W_cons, effOp2, KN_seq, KXr_nil, QE, effOp, effPure, effPick, effCall, giveUp, hasAll, pureV, pickV, binV, lenV, ofC, strip, lkT, lkH, ISt.app, opI, gO, gB, allB, gval, wrapG, dstOK, setD, lendV, lendP, lent, lentP, idsV, idsL, lkHS, flat, clean, callArgs, callFn, allLent, enumT, Gives, Ideal.Fin, conv, conv0, Op.operands, Call.operands, List.append_toArray, reduceIte, reduceCtorEq, cond_true, cond_false, Bool.or_false, Bool.or_true, Bool.false_and, Bool.not_true, Bool.not_false, Nat.reduceAdd, Nat.reduceLT, Nat.reduceEqDiff, Nat.zero_add, ne_eq, not_false_eq_true, and_true, false_and, and_false, and_self, false_implies, implies_true, List.map_cons, List.map_nil, List.nil_append, List.cons_append, List.append_nil, Option.bind_some, List.getElem?_cons_zero, List.getElem?_cons_succ, ex_clo, bft, or_self, Bool.false_eq_true, tab23, hN, isPs_enc, toPs_enc, lk_spec_IsDiagonal_spec_isSimple, lk_spec_IsDiagonal_spec_inRange, lk_spec_IsDiagonal_spec_isDiagonal, sp_spec_isSimple, sp_spec_inRange, sp_spec_isDiagonal, el, w1, c1, hv]
  | true =>
    cases c2 : inR a 0 ((l.length : Int) - 1) with
    | false =>
      rw [c1, c2] at hv
      simp only [V_seq, V_ret, V_region, W_nil, W_cons, effOp2, KN_seq, KXr_nil, QE, effOp, effPure, effPick, effCall, giveUp, hasAll, pureV, pickV, binV, lenV, ofC, strip, lkT, lkH, ISt.app, opI, gO, gB, allB, gval, wrapG, dstOK, setD, lendV, lendP, lent, lentP, idsV, idsL, lkHS, flat, clean, callArgs, callFn, allLent, enumT, Gives, Ideal.Fin, conv, conv0, Op.operands, Call.operands, List.append_toArray, reduceIte, reduceCtorEq, cond_true, cond_false, Bool.or_false, Bool.or_true, Bool.and_false, Bool.false_and, Bool.not_true, Bool.not_false, Nat.reduceAdd, Nat.reduceLT, Nat.reduceEqDiff, Nat.zero_add, ne_eq, not_false_eq_true, beq_self_eq_true, true_and, and_true, false_and, and_false, and_self, false_implies, implies_true, List.map_cons, List.map_nil, List.nil_append, List.cons_append, List.append_nil, Option.bind_some, List.getElem?_cons_zero, List.getElem?_cons_succ, ex_clo, bft, or_self, Bool.true_eq_false, Bool.false_eq_true, tab23, hN, isPs_enc, toPs_enc, lk_spec_IsDiagonal_spec_isSimple, lk_spec_IsDiagonal_spec_inRange, lk_spec_IsDiagonal_spec_isDiagonal, sp_spec_isSimple, sp_spec_inRange, sp_spec_isDiagonal, el, w1, c1, c2, hv]
    | true =>
      cases c3 : inR b 0 ((l.length : Int) - 1) with
      | false =>
        rw [c1, c2, c3] at hv
        simp only [V_seq, V_ret, V_region, W_nil, W_cons, effOp2, KN_seq, KXr_nil, QE, effOp, effPure, effPick, effCall, giveUp, hasAll, pureV, pickV, binV, lenV, ofC, strip, lkT, lkH, ISt.app, opI, gO, gB, allB, gval, wrapG, dstOK, setD, lendV, lendP, lent, lentP, idsV, idsL, lkHS, flat, clean, callArgs, callFn, allLent, enumT, Gives, Ideal.Fin, conv, conv0, Op.operands, Call.operands, List.append_toArray, reduceIte, reduceCtorEq, cond_true, cond_false, Bool.or_false, Bool.or_true, Bool.and_false, Bool.false_and, Bool.not_true, Bool.not_false, Nat.reduceAdd, Nat.reduceLT, Nat.reduceEqDiff, Nat.zero_add, ne_eq, not_false_eq_true, beq_self_eq_true, true_and, and_true, false_and, and_false, and_self, false_implies, implies_true, List.map_cons, List.map_nil, List.nil_append, List.cons_append, List.append_nil, Option.bind_some, List.getElem?_cons_zero, List.getElem?_cons_succ, ex_clo, bft, or_self, Bool.true_eq_false, Bool.false_eq_true, tab23, hN, isPs_enc, toPs_enc, lk_spec_IsDiagonal_spec_isSimple, lk_spec_IsDiagonal_spec_inRange, lk_spec_IsDiagonal_spec_isDiagonal, sp_spec_isSimple, sp_spec_inRange, sp_spec_isDiagonal, el, w1, c1, c2, c3, hv]
      | true =>
        rw [c1, c2, c3] at hv
        obtain ⟨a0, a1⟩ := inR_facts c2
        obtain ⟨b0, b1⟩ := inR_facts c3
        simp only [V_seq, V_ret, V_region, W_nil, W_cons, effOp2, KN_seq, KXr_nil, QE, effOp, effPure, effPick, effCall, giveUp, hasAll, pureV, pickV, binV, lenV, ofC, strip, lkT, lkH, ISt.app, opI, gO, gB, allB, gval, wrapG, dstOK, setD, lendV, lendP, lent, lentP, idsV, idsL, lkHS, flat, clean, callArgs, callFn, allLent, enumT, Gives, Ideal.Fin, conv, conv0, Op.operands, Call.operands, List.append_toArray, reduceIte, reduceCtorEq, cond_true, Bool.or_false, Bool.and_true, Bool.true_and, Bool.not_true, Nat.reduceAdd, Nat.reduceLT, Nat.reduceEqDiff, Nat.zero_add, ne_eq, not_false_eq_true, beq_self_eq_true, and_self, implies_true, List.map_cons, List.map_nil, List.nil_append, List.cons_append, List.append_nil, Option.bind_some, List.getElem?_cons_zero, List.getElem?_cons_succ, ex_clo, or_self, Bool.true_eq_false, tab23, hN, isPs_enc, toPs_enc, lk_spec_IsDiagonal_spec_isSimple, lk_spec_IsDiagonal_spec_inRange, lk_spec_IsDiagonal_spec_isDiagonal, sp_spec_isSimple, sp_spec_inRange, sp_spec_isDiagonal, el, w1, c1, c2, c3, a0, a1, b0, b1, hv]
def sp_spec_IsDiagonal : PSpec := ⟨fun xs => match xs with | [.sl 2 les, .num .i64 a, .num .i64 b] => isPs les | _ => False, fun xs => match xs with | [.sl _ les, .num _ a, .num _ b] => (fun (l : List Pt) (a : Int) (b : Int) => .bool (dgB l a b)) (toPs les) a b | _ => .junk, false⟩
theorem gk_spec_IsDiagonal : ∀ args, sp_spec_IsDiagonal.pre args → ICall Try.prog 20 args (sp_spec_IsDiagonal.val args) := by
  intro args h
  unfold sp_spec_IsDiagonal at h ⊢; simp only at h ⊢; split at h
  · have h0 := h
    obtain ⟨l0, rfl⟩ := isP_ex h0
    simp only [toPs_enc] at *
    exact c_spec_IsDiagonal _ _ _ 
  · exact h.elim
theorem en_spec_IsDiagonal : Enters Try.prog 20 := enters_of Try.func20 (by kernel_rfl) rfl

def g_laws_FnExactIsDiagonal : List (Nat × PSpec) := [(19, sp_laws_szPointS), (21, sp_laws_toPointS_v), (20, sp_spec_IsDiagonal), (22, sp_impl_IsDiagonal), (23, sp_laws_eqPointS)]
theorem gok_laws_FnExactIsDiagonal : GOK Try.prog g_laws_FnExactIsDiagonal := gok_cons gk_laws_szPointS en_laws_szPointS (gok_consO gk_laws_toPointS_v en_laws_toPointS_v (gok_cons gk_spec_IsDiagonal en_spec_IsDiagonal (gok_cons gk_impl_IsDiagonal en_impl_IsDiagonal (gok_cons gk_laws_eqPointS en_laws_eqPointS (gok0)))))
theorem lk_laws_FnExactIsDiagonal_laws_szPointS : lkG g_laws_FnExactIsDiagonal 19 = sp_laws_szPointS := rfl
theorem lk_laws_FnExactIsDiagonal_laws_toPointS_v : lkG g_laws_FnExactIsDiagonal 21 = sp_laws_toPointS_v := rfl
theorem lk_laws_FnExactIsDiagonal_spec_IsDiagonal : lkG g_laws_FnExactIsDiagonal 20 = sp_spec_IsDiagonal := rfl
theorem lk_laws_FnExactIsDiagonal_impl_IsDiagonal : lkG g_laws_FnExactIsDiagonal 22 = sp_impl_IsDiagonal := rfl
theorem lk_laws_FnExactIsDiagonal_laws_eqPointS : lkG g_laws_FnExactIsDiagonal 23 = sp_laws_eqPointS := rfl
def h_laws_FnExactIsDiagonal : List (Nat × HSpec) := []
theorem hok_laws_FnExactIsDiagonal : HOK Try.prog h_laws_FnExactIsDiagonal := hok0
theorem c_laws_FnExactIsDiagonal (l : List Pt) (a : Int) (b : Int)  : ICall Try.prog 5 [.sl 2 (encPs l), .num .i64 a, .num .i64 b] (.bool true) := by
  refine icall_V (G := g_laws_FnExactIsDiagonal) (H := []) [] tabOK mixed gok_laws_FnExactIsDiagonal hok_laws_FnExactIsDiagonal Try.func5 rfl Try.ntmps5 Try.results5 rfl (by kernel_rfl) fun F hN hlen => ?_
  have hl := hlen 0 2 _ rfl
  have el := len_encPs l
  rw [el] at hl
  by_cases c : l.length ≤ 1048576
  · have hv : szPointV l 1048576 = 1048576 - (l.length : Int) := if_neg (by omega)
    have d1 : decide (1048576 - (l.length : Int) < 0) = false := by simp only [decide_eq_false_iff_not]; omega
    have hs : ∀ x : List Pt, (x == x) = true := fun x => by simp
    have hn : ∀ x : Int, (x != x) = false := fun x => by simp
    have hb : ∀ x : Bool, (x != x) = false := fun x => by simp
    simp only [V_seq, V_skip, V_ret, V_region, V_cond, brW_false, W_nil, W_cons, effOp2, KN_seq, KXr_nil, QE, asB, effOp, effPure, effCall, giveUp, hasAll, pureV, binV, ofC, strip, lkT, lkH, ISt.app, opI, gO, gB, allB, gval, wrapG, dstOK, setD, lendV, lendP, lent, lentP, idsV, idsL, lkHS, flat, clean, callArgs, callFn, allLent, enumT, Gives, Ideal.Fin, conv, conv0, Op.operands, reduceIte, reduceCtorEq, cond_true, Bool.or_false, Bool.or_true, Bool.not_true, Nat.reduceAdd, Nat.reduceLT, Nat.reduceEqDiff, Nat.zero_add, beq_self_eq_true, true_and, and_true, and_self, implies_true, forall_const, List.map_cons, List.map_nil, List.nil_append, List.cons_append, List.append_nil, ex_clo, or_self, tab4, hN, isPs_enc, toPs_enc, lk_laws_FnExactIsDiagonal_laws_szPointS, lk_laws_FnExactIsDiagonal_laws_toPointS_v, lk_laws_FnExactIsDiagonal_spec_IsDiagonal, lk_laws_FnExactIsDiagonal_impl_IsDiagonal, lk_laws_FnExactIsDiagonal_laws_eqPointS, sp_laws_szPointS, sp_laws_toPointS_v, sp_spec_IsDiagonal, sp_impl_IsDiagonal, sp_laws_eqPointS, hv, d1, c]
    exact ⟨by omega, by omega⟩
  · have hv : szPointV l 1048576 = -1 := if_pos (by omega)
    have d1 : decide ((-1 : Int) < 0) = true := by decide
    simp only [V_seq, V_ret, V_region, V_cond, brW_true, W_nil, W_cons, effOp2, KN_seq, KXr_nil, KXr_seq, QE, asB, effOp, effPure, effCall, giveUp, hasAll, pureV, binV, ofC, strip, lkT, lkH, ISt.app, opI, gO, gB, allB, gval, wrapG, dstOK, setD, lendV, lendP, lent, lentP, idsV, idsL, lkHS, flat, clean, callArgs, callFn, allLent, enumT, Gives, Ideal.Fin, conv, conv0, Op.operands, reduceIte, reduceCtorEq, cond_true, Bool.or_false, Bool.not_true, Nat.reduceAdd, Nat.reduceLT, Nat.reduceEqDiff, Nat.zero_add, true_and, and_true, and_self, implies_true, forall_const, List.map_cons, List.map_nil, List.nil_append, List.cons_append, List.append_nil, ex_clo, or_self, hN, isPs_enc, toPs_enc, lk_laws_FnExactIsDiagonal_laws_szPointS, sp_laws_szPointS, hv, d1]
    exact ⟨by omega, by omega⟩
def sp_laws_FnExactIsDiagonal : PSpec := ⟨fun xs => match xs with | [.sl 2 les, .num .i64 a, .num .i64 b] => isPs les | _ => False, fun xs => match xs with | [.sl _ les, .num _ a, .num _ b] => (fun (l : List Pt) (a : Int) (b : Int) => .bool true) (toPs les) a b | _ => .junk, false⟩
theorem gk_laws_FnExactIsDiagonal : ∀ args, sp_laws_FnExactIsDiagonal.pre args → ICall Try.prog 5 args (sp_laws_FnExactIsDiagonal.val args) := by
  intro args h
  unfold sp_laws_FnExactIsDiagonal at h ⊢; simp only at h ⊢; split at h
  · have h0 := h
    obtain ⟨l0, rfl⟩ := isP_ex h0
    simp only [toPs_enc] at *
    exact c_laws_FnExactIsDiagonal _ _ _ 
  · exact h.elim
theorem en_laws_FnExactIsDiagonal : Enters Try.prog 5 := enters_of Try.func5 (by kernel_rfl) rfl

end Go.Proofs.Ytlcndghaendieaa
