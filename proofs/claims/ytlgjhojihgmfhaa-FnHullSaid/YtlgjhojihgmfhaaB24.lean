/- Contracts: canonical rings; the exact law on them. -/
import Derived.Test.YtlgjhojihgmfhaaB21
import Derived.Test.YtlgjhojihgmfhaaB16
import Derived.Test.YtlgjhojihgmfhaaPl9
set_option linter.unusedVariables false
set_option linter.unusedSimpArgs false
set_option maxHeartbeats 1600000
set_option maxRecDepth 100000
namespace Go.Proofs.Ytlgjhojihgmfhaa
open Go Go.Ideal Go.Pl Go.Sort

abbrev iAt (l : List Int) (i : Nat) : Int := l.getD i 0
theorem encI_set1 (l : List Int) (i : Nat) (x : Int) : (encI l).set i (.num .i64 x) = encI (l.set i x) := by simp [encI, List.map_set]
theorem encI_hd (x : Int) (l : List Int) : encI (x :: l) = .num .i64 x :: encI l := rfl
theorem iAt_set {l : List Int} {m q : Nat} (x : Int) (hm : m < l.length) : iAt (l.set m x) q = if m = q then x else iAt l q := by
  simp only [iAt, List.getD, List.getElem?_set]
  split
  · rename_i h; subst h; simp
  · rfl
theorem iAt_rev {l : List Int} {q : Nat} (hq : q < l.length) : iAt l.reverse q = iAt l (l.length - 1 - q) := by
  simp only [iAt, List.getD]
  rw [List.getElem?_reverse hq]
theorem iAt_ext {a b : List Int} (h : a.length = b.length) (hj : ∀ j, j < a.length → iAt a j = iAt b j) : a = b := eq_of_getD h hj

/-- All but the first number turned round. -/
def g_slices_Reverse_int_int : List (Nat × PSpec) := []
theorem gok_slices_Reverse_int_int : GOK Try.prog g_slices_Reverse_int_int := gok0
def h_slices_Reverse_int_int : List (Nat × HSpec) := []
theorem hok_slices_Reverse_int_int : HOK Try.prog h_slices_Reverse_int_int := hok0
theorem c_slices_Reverse_int_int (x : Int) (l : List Int) (full : Bool) (hsz : l.length ≤ 1000000) : HCall Try.prog 204 [.ref 1000 1 l.length full] (sm ([(1000, .arr 1 3 (encI (x :: l)))])) (.tup []) (sm ([(1000, .arr 1 3 (encI (x :: l.reverse)))])) := by
  refine hcall_V (G := g_slices_Reverse_int_int) (H := []) [(3, [(2, 13), (3, 13), (8, 13), (9, 13), (10, 13)])] tabOK mixed gok_slices_Reverse_int_int hok_slices_Reverse_int_int Try.func204 rfl Try.ntmps204 Try.results204 rfl (by kernel_rfl) fun F hN hlen => ?_
  simp only [sm]
  have el := len_encI l
  have hx : ∃ k ty es, IBlk.arr 1 3 (encI (x :: l)) = IBlk.arr k ty es := ⟨_, _, _, rfl⟩
  have hw0 : IntKind.i64.wrap ((l.length : Int) - 1) = (l.length : Int) - 1 := wr (by omega) (by omega)
  simp only [V_seq, V_block, V_region, W_nil, W_cons, effOp2, KN_seq, effOp, effPure, pureV, binV, lenV, ofC, strip, lkT, ISt.app, opI, gO, gB, allB, gval, wrapG, dstOK, setD, enumT, Op.operands, Call.operands, List.append_toArray, reduceIte, reduceCtorEq, Nat.reduceLT, Nat.reduceEqDiff, ne_eq, not_false_eq_true, true_and, and_self, implies_true, List.nil_append, List.cons_append, tab62, hN, hw0]
  refine V_loop (α := Nat × List Int) ⟨tabOK, mixed, gok_slices_Reverse_int_int, hok_slices_Reverse_int_int⟩ (by kernel_rfl) (fun b => 2 * b.1 ≤ l.length + 1 ∧ b.2.length = l.length ∧ ∀ q, q < l.length → iAt b.2 q = if q < b.1 ∨ l.length ≤ q + b.1 then iAt l (l.length - 1 - q) else iAt l q)
    (fun b => ⟨[(2, .num .i64 b.1), (3, .num .i64 ((l.length : Int) - 1 - b.1)), (0, .ref 1000 1 l.length full)], [(1000, some (.arr 1 3 (encI (x :: b.2))))]⟩) (fun b => l.length + 1 - b.1) (0, l) id ⟨by simp, rfl, fun q hq => by simp; omega⟩ (by simp [SLe, SLe0, convTm, convHp, convB, conv, conv0, lkT, lkH, clean]) ?_
  rintro ⟨i, A⟩ ⟨b1, b2, b3⟩
  simp only [] at b1 b2 b3
  have hx : ∃ k ty es, IBlk.arr 1 3 (encI (x :: A)) = IBlk.arr k ty es := ⟨_, _, _, rfl⟩
  have eA : (encI (x :: A)).length = l.length + 1 := by rw [len_encI, List.length_cons, b2]
  simp only [V_seq, V_region, V_cond, W_nil, W_cons, effOp2, KN_seq, asB, effOp, effPure, pureV, binV, strip, lkT, ISt.app, opI, gO, gB, allB, gval, wrapG, dstOK, setD, Op.operands, reduceIte, reduceCtorEq, Nat.reduceLT, Nat.reduceEqDiff, true_and, and_self, implies_true, List.nil_append, List.cons_append, hN]
  refine brW_some (fun h => ?_) (fun h => ?_)
  · have hlt : (i : Int) < (l.length : Int) - 1 - i := by simpa using h
    obtain ⟨j, hj⟩ : ∃ j : Nat, (l.length : Int) - 1 - i = j := ⟨l.length - 1 - i, by omega⟩
    have hjl : j < A.length := by omega
    have hil : i < A.length := by omega
    have g1 := getD_encI (l := x :: A) (i := 1 + j) (by simp; omega)
    have g2 := getD_encI (l := x :: A) (i := 1 + i) (by simp; omega)
    have f1 : (x :: A).getD (1 + j) 0 = iAt A j := by rw [Nat.add_comm]; rfl
    have f2 : (x :: A).getD (1 + i) 0 = iAt A i := by rw [Nat.add_comm]; rfl
    rw [f1] at g1
    rw [f2] at g2
    have w1 : IntKind.i64.wrap ((i : Int) + 1) = ((i + 1 : Nat) : Int) := by rw [wr (by omega) (by omega)]; omega
    have w2 : IntKind.i64.wrap ((j : Int) - 1) = (l.length : Int) - 1 - ((i + 1 : Nat) : Int) := by rw [wr (by omega) (by omega)]; omega
    simp only [V_seq, V_skip, V_block, V_region, V_draw, drawW, WS_nil, WS_cons, pairsOf, W_nil, W_cons, effOp2, WI_nil, WI_cons, KN_seq, KN_block, KN_back, dynOK, indB, farB, seeB, see, isStore, freshB, heapy, effOp, effPure, effStore, pureV, storeV, binV, eltV, loadV, iaddrV, over, solid, IV.cells, ofC, strip, lkT, lkH, ISt.app, opI, gO, gB, allB, gval, wrapG, dstOK, setD, mentTm, mentHp, IV.ment, IV.mentL, eltI, oneI, noId', Op.operands, reduceIte, reduceCtorEq, cond_true, cond_false, Bool.or_false, Bool.or_true, Bool.and_true, Bool.true_and, Bool.and_eq_true, Bool.not_true, Bool.not_false, Nat.reduceLT, Nat.reduceLeDiff, Nat.reduceEqDiff, Nat.reduceBEq, Nat.zero_add, ne_eq, not_false_eq_true, beq_self_eq_true, true_and, and_true, false_and, and_false, and_self, implies_true, forall_const, List.map_cons, List.map_nil, List.nil_append, List.cons_append, List.all_cons, List.all_nil, List.getD_cons_zero, List.getD_cons_succ, List.length_cons, List.length_nil, List.take_succ_cons, List.take_zero, List.drop_succ_cons, List.drop_zero, tab3, tab62, hN, Int.toNat_natCast, hj, g1, g2, w1, w2, eA]
    refine ⟨⟨by omega, by omega⟩, by omega, ⟨by omega, by omega⟩, by omega, ⟨by omega, by omega⟩, by omega, ⟨by omega, by omega⟩, by rw [List.length_set]; omega, (i + 1, (A.set i (iAt A j)).set j (iAt A i)), id, ⟨by simp only []; omega, by simp [b2], fun q hq => ?_⟩, by simp only []; omega, ?_⟩
    · simp only []
      have hAi : iAt A i = iAt l i := by rw [b3 i (by omega), if_neg (by omega)]
      have hAj : iAt A j = iAt l j := by rw [b3 j (by omega), if_neg (by omega)]
      have e : iAt ((A.set i (iAt A j)).set j (iAt A i)) q = if j = q then iAt A i else if i = q then iAt A j else iAt A q := by
        rw [iAt_set _ (by rw [List.length_set]; exact hjl), iAt_set _ hil]
      rw [e]
      by_cases c1 : j = q
      · subst c1
        rw [if_pos rfl, if_pos (by omega), hAi]
        congr 1; omega
      · rw [if_neg c1]
        by_cases c2 : i = q
        · subst c2
          rw [if_pos rfl, if_pos (by omega), hAj]
          congr 1; omega
        · rw [if_neg c2, b3 q hq]
          by_cases c3 : q < i ∨ l.length ≤ q + i
          · rw [if_pos c3, if_pos (by omega)]
          · rw [if_neg c3, if_neg (by omega)]
    · have e1 : ((encI (x :: A)).set (1 + i) (.num .i64 (iAt A j))).set (1 + j) (.num .i64 (iAt A i)) = encI (x :: (A.set i (iAt A j)).set j (iAt A i)) := by
        rw [encI_set1, encI_set1, Nat.add_comm 1 i, Nat.add_comm 1 j]; rfl
      simp only [e1]
      exact by simp [SLe, SLe0, convTm, convHp, convB, conv, conv0, lkT, lkH, clean]
  · have hge : (l.length : Int) - 1 - i ≤ i := by simp at h; omega
    have hA : A = l.reverse := by
      refine iAt_ext (by simp [b2]) fun q hq => ?_
      rw [b3 q (by omega), iAt_rev (by omega)]
      split
      · rfl
      · rw [show l.length - 1 - q = q by omega]
    subst hA
    simp only [V_exit, KN_nil, KXe_nil, KXe_seq, KXe_block, KXe_back, QE, lkT, lkH, conv, convL, reduceIte, true_and, and_true, and_self, List.map_cons, List.map_nil, FinH, resA, SLe, SLe0, convTm, convHp, convB]
    exact ⟨id, by simp⟩
def hs_slices_Reverse_int_int : HSpec := ⟨[false], fun xs hp => match xs, hp with | [.ref 1000 1 n full], [(1000, .arr 1 ty (.num .i64 x :: es))] => (isIs es) ∧ (ty = 3) ∧ (n = es.length) ∧ ((fun (x : Int) (l : List Int) (full : Bool) => l.length ≤ 1000000) x (toIs es) full) | _, _ => False, fun xs hp => match xs, hp with | [.ref 1000 1 n full], [(1000, .arr 1 ty (.num .i64 x :: es))] => (fun (x : Int) (l : List Int) (full : Bool) => (.tup [] : IV)) x (toIs es) full | _, _ => .junk, fun xs hp => match xs, hp with | [.ref 1000 1 n full], [(1000, .arr 1 ty (.num .i64 x :: es))] => (fun (x : Int) (l : List Int) (full : Bool) => ([(1000, .arr 1 3 (encI (x :: l.reverse)))] : List (Nat × IBlk))) x (toIs es) full | _, _ => []⟩
theorem hk_slices_Reverse_int_int : ∀ args hp, hs_slices_Reverse_int_int.pre args hp → HCall Try.prog 204 args (sm hp) (hs_slices_Reverse_int_int.val args hp) (sm (hs_slices_Reverse_int_int.hval args hp)) := by
  intro args hp h
  unfold hs_slices_Reverse_int_int at h ⊢; simp only at h ⊢; split at h
  · obtain ⟨h1, rfl, rfl, h2⟩ := h; obtain ⟨l, rfl⟩ := isI_ex h1; rw [toIs_enc] at *; rw [len_encI]; exact c_slices_Reverse_int_int _ l _ h2
  · exact h.elim
theorem en_slices_Reverse_int_int : Enters Try.prog 204 := enters_of Try.func204 (by kernel_rfl) rfl


/-- The order of the vertices. -/
def cntL (n : Nat) (neg : Bool) : List Int := (List.range n).map (fun i : Nat => (Int.ofNat (ordF n neg i)))
theorem cntL_len (n : Nat) (neg : Bool) : (cntL n neg).length = n := by simp [cntL]
theorem cntL_at {n i : Nat} {neg : Bool} (h : i < n) : iAt (cntL n neg) i = ((ordF n neg i : Nat) : Int) := by simp [iAt, cntL, List.getD, h]
def upI (n : Nat) : List Int := (List.range n).map (fun i : Nat => (Int.ofNat i))
theorem upI_len (n : Nat) : (upI n).length = n := by simp [upI]
theorem upI_succ (n : Nat) : upI (n + 1) = upI n ++ [(n : Int)] := by simp [upI, List.range_succ]
theorem upI_cnt (n : Nat) : upI n = cntL n false := rfl
theorem upI_cons (n : Nat) : upI (n + 1) = 0 :: (List.range n).map (fun i : Nat => (Int.ofNat (i + 1))) := by
  simp [upI, List.range_succ_eq_map, Function.comp_def]
theorem upI_rev (n : Nat) : 0 :: ((List.range n).map (fun i : Nat => (Int.ofNat (i + 1)))).reverse = cntL (n + 1) true := by
  refine List.ext_getElem (by simp [cntL]) ?_
  intro j h1 h2
  simp only [cntL, List.length_map, List.length_range] at h2
  simp only [cntL, List.getElem_map, List.getElem_range, ordF, if_true]
  rcases j with _ | j
  · simp
  · simp only [List.getElem_cons_succ, List.getElem_reverse, List.getElem_map, List.getElem_range, List.length_map, List.length_range]
    rw [Nat.mod_eq_of_lt (by omega)]
    congr 1; omega

def g_impl_counter : List (Nat × PSpec) := [(91, sp_impl_area)]
theorem gok_impl_counter : GOK Try.prog g_impl_counter := gok_cons gk_impl_area en_impl_area (gok0)
theorem lk_impl_counter_impl_area : lkG g_impl_counter 91 = sp_impl_area := rfl
def h_impl_counter : List (Nat × HSpec) := [(204, hs_slices_Reverse_int_int)]
theorem hok_impl_counter : HOK Try.prog h_impl_counter := hok_cons hk_slices_Reverse_int_int en_slices_Reverse_int_int (hok0)
theorem lh_impl_counter_impl_area : lkHS h_impl_counter 91 = none := rfl
theorem lh_impl_counter_slices_Reverse_int_int : lkHS h_impl_counter 204 = some hs_slices_Reverse_int_int := rfl
theorem c_impl_counter (l : List Pt) (hm : SmL l) (h3 : 1 ≤ l.length) (hsz : l.length ≤ 1000000) : ICall Try.prog 140 [.sl 2 (encPs l)] (.sl 1 (encI (cntL l.length (decide (areaP l < 0))))) := by
  refine icall_V (G := g_impl_counter) (H := h_impl_counter) [] tabOK mixed gok_impl_counter hok_impl_counter Try.func140 rfl Try.ntmps140 Try.results140 rfl (by kernel_rfl) fun F hN hlen => ?_
  have el := len_encPs l
  simp only [V_seq, V_block, V_region, W_nil, W_cons, effOp2, KN_seq, effOp, effPure, effNew, effMake, skipE, pureV, lenV, ofC, strip, lkT, ISt.app, opI, gO, gB, allB, gval, wrapG, dstOK, setD, mentTm, mentHp, IV.ment, zeroElt, noId', enumT, Op.operands, Call.operands, List.append_toArray, reduceIte, reduceCtorEq, cond_true, Bool.or_false, Nat.reduceLT, Nat.reduceLeDiff, Nat.reduceEqDiff, ne_eq, not_false_eq_true, true_and, and_self, implies_true, List.nil_append, List.cons_append, List.append_nil, tab3, tab39, tab62, hN, el]
  refine ⟨⟨by omega, by omega, by omega, by omega, rfl⟩, ?_⟩
  refine V_loop (α := Nat) ⟨tabOK, mixed, gok_impl_counter, hok_impl_counter⟩ (by kernel_rfl) (fun i => i ≤ l.length) (fun i => ⟨[(10, .num .i64 i), (9, .num .i64 l.length), (3, .ref 7 0 i true), (0, .sl 2 (encPs l))], [(7, some (.arr 1 3 (encI (upI i))))]⟩) (fun i => l.length - i) 0 id (Nat.zero_le _) (by simp [SLe, SLe0, convTm, convHp, convB, conv, conv0, lkT, lkH, clean, upI, encI]) ?_
  intro i hi
  have ee : (encI (upI i)).length = i := by rw [len_encI, upI_len]
  have hx : ∃ k ty es, IBlk.arr 1 3 (encI (upI i)) = IBlk.arr k ty es := ⟨_, _, _, rfl⟩
  simp only [V_seq, V_region, V_cond, W_nil, W_cons, effOp2, KN_seq, asB, effOp, effPure, pureV, binV, strip, lkT, ISt.app, opI, gO, gB, allB, gval, wrapG, dstOK, setD, Op.operands, reduceIte, reduceCtorEq, Nat.reduceLT, Nat.reduceEqDiff, true_and, and_self, implies_true, List.nil_append, List.cons_append, hN]
  refine brW_some (fun h => ?_) (fun h => ?_)
  · have hi' : i < l.length := by simpa using h
    have hw := wr_succ hi' (by rw [maxLen_eq]; omega)
    have hst : encI (upI (i + 1)) = (encI (upI i)).take i ++ [IV.num .i64 i] := by rw [upI_succ, List.take_of_length_le (Nat.le_of_eq ee), encI, encI, List.map_append]; rfl
    simp only [V_seq, V_skip, V_block, V_region, W_nil, W_cons, effOp2, KN_seq, KN_block, KN_back, effOp, effPure, effNew, effBuildSlice, effFrz, frz, tmpsOf, effAppend, effZeros, skipE, pureV, srcV, refId, binV, ofC, strip, lkT, lkH, ISt.app, opI, gO, gB, allB, gval, wrapG, dstOK, setD, mentTm, mentHp, IV.ment, partsL, eltsI, eltI, noId', Op.operands, reduceIte, reduceCtorEq, cond_true, Bool.or_false, Nat.reduceMul, Nat.reduceLT, Nat.reduceLeDiff, Nat.reduceEqDiff, Nat.reduceBEq, Nat.zero_add, ne_eq, not_false_eq_true, true_and, and_true, and_self, implies_true, List.nil_append, List.cons_append, List.append_nil, Option.some.injEq, List.length_cons, List.length_nil, List.take_succ_cons, List.take_nil, List.drop_zero, tab3, tab62, hN, hw, ee]
    repeat refine And.intro (by first | omega | (simp; done) | (simp; omega)) ?_
    refine ⟨i + 1, fun x => if x = 7 then 16 else x, by simp only []; omega, by simp only []; omega, ?_⟩
    simp [SLe, SLe0, convTm, convHp, convB, conv, conv0, lkT, lkH, clean]
    exact ⟨take_eq_of hst, fun x a1 a2 a3 => by omega⟩
  · have hie : i = l.length := by simp at h; omega
    subst hie
    cases hneg : decide (areaP l < 0) with
    | false =>
      simp only [V_seq, V_skip, V_ret, V_exit, V_region, V_cond, brW_false, W_nil, W_cons, effOp2, KN_seq, KXr_nil, KXe_nil, KXe_seq, KXe_block, KXe_back, QE, asB, effOp, effPure, effCall, giveUp, hasAll, pureV, binV, ofC, strip, lkT, lkH, ISt.app, opI, gO, gB, allB, gval, wrapG, dstOK, setD, lendV, lendP, lent, lentP, idsV, idsL, flat, clean, callArgs, callFn, allLent, Gives, Ideal.Fin, conv, conv0, Op.operands, reduceIte, reduceCtorEq, cond_true, Bool.or_false, Bool.not_true, Nat.reduceLT, Nat.reduceEqDiff, Nat.zero_add, ne_eq, true_and, and_true, and_self, false_implies, implies_true, List.map_cons, List.map_nil, List.nil_append, List.cons_append, List.append_nil, Option.some.injEq, List.drop_zero, ex_clo, or_self, Bool.false_eq_true, hN, isPs_enc, toPs_enc, Option.isSome_none, lk_impl_counter_impl_area, sp_impl_area, lh_impl_counter_impl_area, hm, hsz, hneg]
      have e3 : upI l.length = cntL l.length false := rfl
      rw [e3] at ee ⊢
      exact ⟨_, _, rfl, by omega, (List.take_of_length_le (by omega)).symm⟩
    | true =>
      obtain ⟨n, hn⟩ : ∃ n, l.length = n + 1 := ⟨l.length - 1, by omega⟩
      obtain ⟨t, ht⟩ : ∃ t : List Int, (List.range n).map (fun i : Nat => (Int.ofNat (i + 1))) = t := ⟨_, rfl⟩
      have htl : t.length = n := by rw [← ht]; simp
      have hup : upI l.length = 0 :: t := by rw [hn, upI_cons, ht]
      have hre := upI_rev n
      rw [ht, ← hn] at hre
      have hc0 : encI (0 :: t) = .num .i64 0 :: encI t := rfl
      have q1 : Int.toNat 1 = 1 := rfl
      have q2 : l.length - 1 = t.length := by omega
      have q3 : t.length ≤ 1000000 := by omega
      have el2 := len_encI t
      have hc2 : encI (cntL l.length true) = .num .i64 0 :: encI t.reverse := by rw [← hre]; rfl
      rw [hup, hc0] at ee hx ⊢
      simp only [V_seq, V_ret, V_exit, V_region, V_cond, brW_true, W_nil, W_cons, effOp2, KN_seq, KXr_nil, KXe_nil, KXe_seq, KXe_block, KXe_back, QE, asB, effOp, effPure, effCall, giveUp, hasAll, Option.isSome_some, skipE, pureV, binV, sliceV, ofC, strip, lkT, lkH, ISt.app, opI, gO, gB, allB, gval, wrapG, dstOK, setD, mentTm, mentHp, IV.ment, lendV, lendP, lent, lentP, idsV, idsL, flat, clean, callArgs, callFn, allLent, enumT, Gives, Ideal.Fin, conv, conv0, convL, IBlk.shape, Op.operands, List.append_toArray, Array.append_empty, Option.toArray_none, Option.toArray_some, reduceIte, reduceCtorEq, cond_true, cond_false, Bool.or_false, Bool.or_true, Bool.and_true, Bool.true_and, Bool.not_true, Nat.reduceAdd, Nat.reduceSub, Nat.reduceMul, Nat.reduceLT, Nat.reduceLeDiff, Nat.reduceEqDiff, Nat.zero_add, ne_eq, not_false_eq_true, beq_self_eq_true, true_and, and_true, and_false, and_self, false_implies, implies_true, forall_const, List.map_cons, List.map_nil, List.nil_append, List.cons_append, List.append_nil, List.all_nil, Option.some.injEq, Option.map_some, Option.map_none, List.getD_cons_zero, List.length_cons, List.take_succ_cons, List.drop_zero, ex_clo, true_or, or_self, Bool.true_eq_false, Bool.false_eq_true, tab3, tab62, hN, isPs_enc, toPs_enc, isIs_enc, toIs_enc, SLe0, convTm, convHp, convB, sm, effH, mkHC0, mkHC1, lendM, lentM, lentI, allHere, addIds, idsB, flatIds, reach, posn, renV, renL, renB, renH, numB, subHp, fwd, bk, bwd, nones, keyOK, noSl, noSlL, flatBs, List.contains, List.elem, Option.isSome_some, Option.isSome_none, List.nodup_nil, List.nodup_cons, List.not_mem_nil, Option.getD_some, lk_impl_counter_impl_area, sp_impl_area, lh_impl_counter_impl_area, lh_impl_counter_slices_Reverse_int_int, hs_slices_Reverse_int_int, hm, hsz, hneg, ee, q1, q2, q3, el2, hc2, encI_hd]
      exact ⟨⟨by omega, by omega⟩, ⟨(List.take_of_length_le (by omega)).symm, by rw [List.take_length]⟩, _, _, rfl, by simp [encI]; omega, (List.take_of_length_le (by simp [encI]; omega)).symm⟩
def sp_impl_counter : PSpec := ⟨fun xs => match xs with | [.sl 2 les] => isPs les ∧ ((fun (l : List Pt) => SmL l) (toPs les)) ∧ ((fun (l : List Pt) => 1 ≤ l.length) (toPs les)) ∧ ((fun (l : List Pt) => l.length ≤ 1000000) (toPs les)) | _ => False, fun xs => match xs with | [.sl _ les] => (fun (l : List Pt) => .sl 1 (encI (cntL l.length (decide (areaP l < 0))))) (toPs les) | _ => .junk, false⟩
theorem gk_impl_counter : ∀ args, sp_impl_counter.pre args → ICall Try.prog 140 args (sp_impl_counter.val args) := by
  intro args h
  unfold sp_impl_counter at h ⊢; simp only at h ⊢; split at h
  · obtain ⟨h0, h1, h2, h3⟩ := h
    obtain ⟨l0, rfl⟩ := isP_ex h0
    simp only [toPs_enc] at *
    exact c_impl_counter _ h1 h2 h3
  · exact h.elim
theorem en_impl_counter : Enters Try.prog 140 := enters_of Try.func140 (by kernel_rfl) rfl


/-- Is this the first point in order? -/
def isMin (l : List Pt) (k : Int) : Bool := pAt l k.toNat == minP l
def g_impl_Canonical_1 : List (Nat × PSpec) := [(143, sp_impl_sorted_v)]
theorem gok_impl_Canonical_1 : GOK Try.prog g_impl_Canonical_1 := gok_cons gk_impl_sorted_v en_impl_sorted_v (gok0)
theorem lk_impl_Canonical_1_impl_sorted_v : lkG g_impl_Canonical_1 143 = sp_impl_sorted_v := rfl
def h_impl_Canonical_1 : List (Nat × HSpec) := []
theorem hok_impl_Canonical_1 : HOK Try.prog h_impl_Canonical_1 := hok0
theorem c_impl_Canonical_1 (l : List Pt) (k : Int) (h0 : 0 ≤ k) (h1 : k < l.length) (hsz : l.length ≤ 1000000) : HCall Try.prog 142 [.num .i64 k, .ptr 1000 0] (sm ([(1000, .box 39 [.sl 2 (encPs l)])])) (.bool (isMin l k)) (sm ([(1000, .box 39 [.sl 2 (encPs l)])])) := by
  refine hcall_V (G := g_impl_Canonical_1) (H := []) [(1, [(0, 5), (1, 5), (2, 5), (3, 5), (5, 7), (5, 8)])] tabOK mixed gok_impl_Canonical_1 hok_impl_Canonical_1 Try.func142 rfl Try.ntmps142 Try.results142 rfl (by kernel_rfl) fun F hN hlen => ?_
  simp only [sm]
  obtain ⟨i, rfl⟩ : ∃ i : Nat, k = i := ⟨k.toNat, by omega⟩
  have hi' : i < l.length := by omega
  have el := len_encPs l
  have g0 := getD_encPs hi'
  have hne : 0 < (insP l).length := by
    rcases Nat.eq_zero_or_pos (insP l).length with h | h
    · have := mem_insP.2 (pA_mem hi')
      rw [List.length_eq_zero_iff.1 h] at this; cases this
    · exact h
  have g1 := getD_encPs hne
  have e1 := len_encPs (insP l)
  have hm : pAt (insP l) 0 = minP l := by rw [minP]; cases insP l <;> rfl
  rw [hm] at g1
  have eqv : ((pAt l i).1 == (minP l).1 && (pAt l i).2 == (minP l).2) = isMin l i := rfl
  have g1' : (encPs (insP l)).getD (Int.toNat 0) .junk = .agg [.num .i64 (minP l).1, .num .i64 (minP l).2] := g1
  simp only [V_seq, V_ret, V_region, V_draw, drawW, WS_nil, pairsOf, W_nil, W_cons, effOp2, WI_nil, WI_cons, KN_seq, KXr_nil, QE, dynOK, indB, farB, freshB, heapy, effOp, effPure, effCall, giveUp, hasAll, pureV, binV, partV, eltV, loadV, iaddrV, ofC, strip, lkT, lkH, ISt.app, opI, gO, gB, allB, gval, wrapG, dstOK, setD, mentTm, mentHp, IV.ment, IV.mentL, lendV, lendP, lent, lentP, idsV, idsL, lkHS, flat, clean, callArgs, callFn, allLent, enumT, conv, conv0, eqL, numsOnly, Op.operands, Call.operands, List.append_toArray, reduceIte, reduceCtorEq, cond_true, cond_false, Bool.or_false, Bool.and_true, Bool.and_eq_true, Bool.not_true, Bool.not_false, Nat.reduceAdd, Nat.reduceLT, Nat.reduceLeDiff, Nat.reduceEqDiff, Nat.reduceBEq, Nat.zero_add, ne_eq, not_false_eq_true, true_and, and_true, and_false, and_self, false_implies, implies_true, forall_const, List.map_cons, List.map_nil, List.nil_append, List.cons_append, List.append_nil, List.getD_cons_zero, List.getD_cons_succ, List.length_cons, List.length_nil, List.take_succ_cons, List.take_zero, List.take_nil, List.drop_zero, ex_clo, or_true, Bool.false_eq_true, tab35, tab39, hN, Int.toNat_natCast, isPs_enc, toPs_enc, FinH, resA, resV, SLe, SLe0, convTm, convHp, convB, lk_impl_Canonical_1_impl_sorted_v, sp_impl_sorted_v, el, hsz, g0, g1', e1, eqv]
  exact ⟨⟨by omega, by omega⟩, ⟨by omega, by omega⟩, id, by simp [convL, conv, conv0]⟩
def hs_impl_Canonical_1 : HSpec := ⟨[false, false], fun xs hp => match xs, hp with | [.num .i64 k, .ptr 1000 0], [(1000, .box ty [.sl 2 es])] => (isPs es) ∧ (ty = 39) ∧ ((fun (l : List Pt) (k : Int) => 0 ≤ k) (toPs es) k) ∧ ((fun (l : List Pt) (k : Int) => k < l.length) (toPs es) k) ∧ ((fun (l : List Pt) (k : Int) => l.length ≤ 1000000) (toPs es) k) | _, _ => False, fun xs hp => match xs, hp with | [.num .i64 k, .ptr 1000 0], [(1000, .box ty [.sl 2 es])] => (fun (l : List Pt) (k : Int) => (.bool (isMin l k) : IV)) (toPs es) k | _, _ => .junk, fun xs hp => match xs, hp with | [.num .i64 k, .ptr 1000 0], [(1000, .box ty [.sl 2 es])] => (fun (l : List Pt) (k : Int) => ([(1000, .box 39 [.sl 2 (encPs l)])] : List (Nat × IBlk))) (toPs es) k | _, _ => []⟩
theorem hk_impl_Canonical_1 : ∀ args hp, hs_impl_Canonical_1.pre args hp → HCall Try.prog 142 args (sm hp) (hs_impl_Canonical_1.val args hp) (sm (hs_impl_Canonical_1.hval args hp)) := by
  intro args hp h
  unfold hs_impl_Canonical_1 at h ⊢; simp only at h ⊢; split at h
  · obtain ⟨h1, rfl, h2, h3, h4⟩ := h; obtain ⟨l, rfl⟩ := isP_ex h1; rw [toPs_enc] at *; exact c_impl_Canonical_1 l _ h2 h3 h4
  · exact h.elim
theorem en_impl_Canonical_1 : Enters Try.prog 142 := enters_of Try.func142 (by kernel_rfl) rfl

def g_slices_IndexFunc_int_int : List (Nat × PSpec) := []
theorem gok_slices_IndexFunc_int_int : GOK Try.prog g_slices_IndexFunc_int_int := gok0
def h_slices_IndexFunc_int_int : List (Nat × HSpec) := [(142, hs_impl_Canonical_1)]
theorem hok_slices_IndexFunc_int_int : HOK Try.prog h_slices_IndexFunc_int_int := hok_cons hk_impl_Canonical_1 en_impl_Canonical_1 (hok0)
theorem lh_slices_IndexFunc_int_int_impl_Canonical_1 : lkHS h_slices_IndexFunc_int_int 142 = some hs_impl_Canonical_1 := rfl
theorem c_slices_IndexFunc_int_int (o : List Int) (l : List Pt) (ho : ∀ x ∈ o, 0 ≤ x ∧ x < l.length) (hsz : l.length ≤ 1000000) (hsz2 : o.length ≤ 1000000) : HCall Try.prog 141 [.sl 1 (encI o), .clo 142 [.ptr 1000 0]] (sm ([(1000, .box 39 [.sl 2 (encPs l)])])) (.num .i64 (idxF (isMin l) o 0)) (sm ([(1000, .box 39 [.sl 2 (encPs l)])])) := by
  refine hcall_V (G := g_slices_IndexFunc_int_int) (H := h_slices_IndexFunc_int_int) [] tabOK mixed gok_slices_IndexFunc_int_int hok_slices_IndexFunc_int_int Try.func141 rfl Try.ntmps141 Try.results141 rfl (by kernel_rfl) fun F hN hlen => ?_
  simp only [sm]
  have el := len_encI o
  simp only [V_seq, V_block, V_region, W_nil, W_cons, effOp2, KN_seq, effOp, effPure, pureV, lenV, ofC, strip, lkT, ISt.app, opI, gO, gB, allB, gval, wrapG, dstOK, setD, enumT, Op.operands, Call.operands, List.append_toArray, reduceIte, reduceCtorEq, Nat.reduceLT, Nat.reduceEqDiff, Nat.zero_add, ne_eq, not_false_eq_true, true_and, and_self, implies_true, List.nil_append, List.cons_append, tab62, hN, el]
  refine V_loop (α := Nat) ⟨tabOK, mixed, gok_slices_IndexFunc_int_int, hok_slices_IndexFunc_int_int⟩ (by kernel_rfl) (fun i => i ≤ o.length ∧ idxF (isMin l) o 0 = idxF (isMin l) (o.drop i) i)
    (fun i => ⟨[(8, .num .i64 i), (7, .num .i64 o.length), (0, .sl 1 (encI o)), (1, .clo 142 [.ptr 1000 0])], [(1000, some (.box 39 [.sl 2 (encPs l)]))]⟩) (fun i => o.length - i) 0 id (by simp) (by simp [SLe, SLe0, convTm, convHp, convB, conv, conv0, convL, lkT, lkH, clean]) ?_
  rintro i ⟨hi, hj⟩
  simp only [V_seq, V_region, V_cond, W_nil, W_cons, effOp2, KN_seq, asB, effOp, effPure, pureV, binV, strip, lkT, ISt.app, opI, gO, gB, allB, gval, wrapG, dstOK, setD, Op.operands, reduceIte, reduceCtorEq, Nat.reduceLT, Nat.reduceEqDiff, true_and, and_self, implies_true, List.nil_append, List.cons_append, hN]
  refine brW_some (fun h => ?_) (fun h => ?_)
  · have hi' : i < o.length := by simpa using h
    have g0 := getD_encI hi'
    have hw := wr_succ hi' (by rw [maxLen_eq]; omega)
    have hst := idxF_step (p := isMin l) (d := 0) hi'
    have hb := ho (o.getD i 0) (by rw [List.getD, List.getElem?_eq_getElem hi']; exact List.getElem_mem hi')
    generalize o.getD i 0 = x at *
    simp only [V_seq, V_skip, V_block, V_region, V_cond, W_nil, W_cons, effOp2, KN_seq, asB, effOp, effPure, Option.isSome_some, skipE, pureV, eltV, loadV, iaddrV, strip, lkT, lkH, ISt.app, opI, gO, gB, allB, gval, wrapG, dstOK, setD, mentTm, mentHp, IV.ment, IV.mentL, idsV, idsL, clean, callArgs, callFn, enumT, conv, conv0, convL, IBlk.shape, Op.operands, reduceIte, reduceCtorEq, cond_true, cond_false, Bool.or_false, Bool.or_true, Bool.and_true, Nat.reduceAdd, Nat.reduceSub, Nat.reduceMul, Nat.reduceLT, Nat.reduceLeDiff, Nat.reduceEqDiff, Nat.zero_add, ne_eq, not_false_eq_true, beq_self_eq_true, true_and, and_true, and_false, and_self, implies_true, forall_const, List.map_cons, List.map_nil, List.nil_append, List.cons_append, List.append_nil, List.all_nil, Option.map_some, List.getD_cons_zero, ex_clo, Bool.true_eq_false, Bool.false_eq_true, tab3, tab62, hN, Int.toNat_natCast, isPs_enc, toPs_enc, SLe0, convTm, convHp, convB, sm, effH, mkHC0, mkHC1, lendM, lentM, lentI, allHere, addIds, idsB, flatIds, reach, posn, renV, renL, renB, renH, numB, subHp, fwd, bk, bwd, nones, keyOK, noSl, noSlL, flatBs, List.contains, List.elem, Option.isSome_some, List.nodup_nil, List.nodup_cons, List.not_mem_nil, or_false, Option.getD_some, lh_slices_IndexFunc_int_int_impl_Canonical_1, hs_impl_Canonical_1, el, g0, hb, hsz]
    refine ⟨⟨by omega, by omega⟩, brW_some (fun h => ?_) (fun h => ?_)⟩
    · rw [if_pos h, ← hj] at hst
      simp only [V_seq, V_ret, V_region, W_nil, W_cons, effOp2, KN_seq, KXr_nil, KXr_seq, KXr_block, KXr_back, QE, effOp, effPure, pureV, strip, lkT, lkH, ISt.app, opI, gO, gB, allB, gval, wrapG, dstOK, setD, clean, conv, conv0, Op.operands, reduceIte, reduceCtorEq, Nat.reduceLT, Nat.reduceEqDiff, not_false_eq_true, true_and, and_true, and_self, false_implies, implies_true, List.map_cons, List.map_nil, List.nil_append, List.cons_append, hN, FinH, resA, resV, SLe, SLe0, convTm, convHp, convB, List.nodup_nil, List.nodup_cons, List.not_mem_nil, hst]
      exact ⟨id, by simp [convL, conv, conv0]⟩
    · rw [if_neg (by rw [h]; decide), ← hj] at hst
      simp only [V_skip, V_region, W_nil, W_cons, effOp2, KN_seq, KN_block, KN_back, effOp, effPure, pureV, binV, ofC, strip, lkT, ISt.app, opI, gO, gB, allB, gval, wrapG, dstOK, setD, Op.operands, reduceIte, reduceCtorEq, Nat.reduceLT, Nat.reduceEqDiff, true_and, and_self, implies_true, List.nil_append, List.cons_append, hN, hw]
      exact ⟨i + 1, id, ⟨by omega, hst⟩, by simp only []; omega, by simp [SLe, SLe0, convTm, convHp, convB, conv, conv0, convL, lkT, lkH, clean]⟩
  · have hie : i = o.length := by simp at h; omega
    subst hie
    rw [List.drop_length] at hj
    simp only [V_seq, V_ret, V_exit, V_region, W_nil, W_cons, effOp2, KN_seq, KXr_nil, KXe_nil, KXe_seq, KXe_block, KXe_back, QE, effOp, effPure, pureV, ofC, strip, lkT, lkH, ISt.app, opI, gO, gB, allB, gval, wrapG, dstOK, setD, clean, conv, conv0, Op.operands, reduceIte, reduceCtorEq, Nat.reduceLT, Nat.reduceEqDiff, not_false_eq_true, true_and, and_true, and_self, false_implies, implies_true, List.map_cons, List.map_nil, List.nil_append, List.cons_append, hN, FinH, resA, resV, SLe, SLe0, convTm, convHp, convB, List.nodup_nil, List.nodup_cons, List.not_mem_nil, hj, idxF]
    exact ⟨id, by simp [convL, conv, conv0]⟩
def hs_slices_IndexFunc_int_int : HSpec := ⟨[true, false], fun xs hp => match xs, hp with | [.sl 1 oes, .clo 142 [.ptr 1000 0]], [(1000, .box ty [.sl 2 es])] => (isIs oes) ∧ (isPs es) ∧ (ty = 39) ∧ ((fun (o : List Int) (l : List Pt) => ∀ x ∈ o, 0 ≤ x ∧ x < l.length) (toIs oes) (toPs es)) ∧ ((fun (o : List Int) (l : List Pt) => l.length ≤ 1000000) (toIs oes) (toPs es)) ∧ ((fun (o : List Int) (l : List Pt) => o.length ≤ 1000000) (toIs oes) (toPs es)) | _, _ => False, fun xs hp => match xs, hp with | [.sl 1 oes, .clo 142 [.ptr 1000 0]], [(1000, .box ty [.sl 2 es])] => (fun (o : List Int) (l : List Pt) => (.num .i64 (idxF (isMin l) o 0) : IV)) (toIs oes) (toPs es) | _, _ => .junk, fun xs hp => match xs, hp with | [.sl 1 oes, .clo 142 [.ptr 1000 0]], [(1000, .box ty [.sl 2 es])] => (fun (o : List Int) (l : List Pt) => ([(1000, .box 39 [.sl 2 (encPs l)])] : List (Nat × IBlk))) (toIs oes) (toPs es) | _, _ => []⟩
theorem hk_slices_IndexFunc_int_int : ∀ args hp, hs_slices_IndexFunc_int_int.pre args hp → HCall Try.prog 141 args (sm hp) (hs_slices_IndexFunc_int_int.val args hp) (sm (hs_slices_IndexFunc_int_int.hval args hp)) := by
  intro args hp h
  unfold hs_slices_IndexFunc_int_int at h ⊢; simp only at h ⊢; split at h
  · obtain ⟨h0, h1, rfl, h2, h3, h4⟩ := h; obtain ⟨o, rfl⟩ := isI_ex h0; obtain ⟨l, rfl⟩ := isP_ex h1; rw [toIs_enc, toPs_enc] at *; exact c_slices_IndexFunc_int_int o l h2 h3 h4
  · exact h.elim
theorem en_slices_IndexFunc_int_int : Enters Try.prog 141 := enters_of Try.func141 (by kernel_rfl) rfl


theorem idx_first {α : Type} {p : α → Bool} : ∀ {l : List α} {d : α} {k i : Nat}, i < l.length → p (l.getD i d) = true → ∃ f, f < l.length ∧ p (l.getD f d) = true ∧ idxF p l k = ((k + f : Nat) : Int)
  | [], _, _, i, h, _ => by simp at h
  | x :: l, d, k, i, h, hp => by
    by_cases c : p x = true
    · exact ⟨0, by simp, by simpa using c, by rw [idxF, if_pos c]; simp⟩
    · rcases i with _ | i
      · simp at hp; exact absurd hp c
      · obtain ⟨f, f1, f2, f3⟩ := idx_first (l := l) (d := d) (k := k + 1) (i := i) (by simpa using h) (by simpa using hp)
        refine ⟨f + 1, by simpa using f1, by simpa using f2, ?_⟩
        rw [idxF, if_neg c, f3]; congr 1; omega
theorem can_first {l : List Pt} (neg : Bool) (h : 0 < l.length) : ∃ f, f < l.length ∧ pA l (ordF l.length neg f) = minP l ∧ idxF (isMin l) (cntL l.length neg) 0 = (f : Int) := by
  obtain ⟨i, hi, he⟩ := ord_min neg h
  have hat : ∀ j, j < l.length → (cntL l.length neg).getD j 0 = ((ordF l.length neg j : Nat) : Int) := fun j hj => cntL_at hj
  obtain ⟨f, f1, f2, f3⟩ := idx_first (p := isMin l) (l := cntL l.length neg) (d := 0) (k := 0) (i := i) (by rw [cntL_len]; exact hi) (by rw [hat i hi]; simp [isMin]; exact he)
  rw [cntL_len] at f1
  refine ⟨f, f1, ?_, by simpa using f3⟩
  rw [hat f f1] at f2
  simpa [isMin] using f2
/-- So many of the canonical ring's points, from the place f of the order on. -/
def canN (l : List Pt) (neg : Bool) (f i : Nat) : List Pt := (List.range i).map fun j => pA l (ordF l.length neg ((f + j) % l.length))
theorem canN_len (l : List Pt) (neg : Bool) (f i : Nat) : (canN l neg f i).length = i := by simp [canN]
theorem canN_succ (l : List Pt) (neg : Bool) (f i : Nat) : canN l neg f (i + 1) = canN l neg f i ++ [pA l (ordF l.length neg ((f + i) % l.length))] := by simp [canN, List.range_succ]
theorem canN_all {l : List Pt} {neg : Bool} (hnd : l.Nodup) {f : Nat} (hf : f < l.length) (hm : pA l (ordF l.length neg f) = minP l) : canN l neg f l.length = canR l neg := (can_eq hnd hf hm).symm
/-- What Canonical gives for a simple polygon. -/
def canP (l : List Pt) : List Pt := canR l (decide (areaP l < 0))
theorem canP_len (l : List Pt) : (canP l).length = l.length := canR_len l _

def g_impl_Canonical_h : List (Nat × PSpec) := [(90, sp_impl_simple), (140, sp_impl_counter)]
theorem gok_impl_Canonical_h : GOK Try.prog g_impl_Canonical_h := gok_cons gk_impl_simple en_impl_simple (gok_cons gk_impl_counter en_impl_counter (gok0))
theorem lk_impl_Canonical_h_impl_simple : lkG g_impl_Canonical_h 90 = sp_impl_simple := rfl
theorem lk_impl_Canonical_h_impl_counter : lkG g_impl_Canonical_h 140 = sp_impl_counter := rfl
def h_impl_Canonical_h : List (Nat × HSpec) := [(141, hs_slices_IndexFunc_int_int)]
theorem hok_impl_Canonical_h : HOK Try.prog h_impl_Canonical_h := hok_cons hk_slices_IndexFunc_int_int en_slices_IndexFunc_int_int (hok0)
theorem lh_impl_Canonical_h_impl_simple : lkHS h_impl_Canonical_h 90 = none := rfl
theorem lh_impl_Canonical_h_impl_counter : lkHS h_impl_Canonical_h 140 = none := rfl
theorem lh_impl_Canonical_h_slices_IndexFunc_int_int : lkHS h_impl_Canonical_h 141 = some hs_slices_IndexFunc_int_int := rfl
theorem c_impl_Canonical_h (l : List Pt) (hs : simpB l = true) : HCall Try.prog 70 [.sl 2 (encPs l)] (sm ([])) (.ref 0 0 l.length true) (sm ([(0, .arr 2 35 (encPs (canP l)))])) := by
  refine hcall_V (G := g_impl_Canonical_h) (H := h_impl_Canonical_h) [(9, [(0, 13), (1, 13), (2, 13), (3, 13), (4, 13), (5, 13), (6, 13), (7, 13), (8, 13), (9, 13), (10, 13), (11, 13), (1, 14), (2, 14), (3, 14), (4, 14), (5, 14), (6, 14), (7, 14), (8, 14), (9, 14), (10, 14), (11, 14), (12, 14)])] tabOK mixed gok_impl_Canonical_h hok_impl_Canonical_h Try.func70 rfl Try.ntmps70 Try.results70 rfl (by kernel_rfl) fun F hN hlen => ?_
  simp only [sm]
  obtain ⟨hk, h3, h20, hnd⟩ := ring_facts (simp_ring hs)
  have hm := okPs_sm hk
  have hz : l.length ≤ 1000000 := by omega
  have h1 : 1 ≤ l.length := by omega
  have el := len_encPs l
  obtain ⟨neg, hneg⟩ : ∃ neg, decide (areaP l < 0) = neg := ⟨_, rfl⟩
  obtain ⟨f, f1, f2, f3⟩ := can_first (l := l) neg (by omega)
  have hall := canN_all hnd f1 f2
  have hcp : canP l = canR l neg := by rw [canP, hneg]
  obtain ⟨o, ho⟩ : ∃ o, cntL l.length neg = o := ⟨_, rfl⟩
  have hol : o.length = l.length := by rw [← ho, cntL_len]
  have hoat : ∀ j, j < l.length → o.getD j 0 = ((ordF l.length neg j : Nat) : Int) := fun j hj => by rw [← ho]; exact cntL_at hj
  have hob : ∀ x ∈ o, 0 ≤ x ∧ x < (l.length : Int) := by
    intro x hx
    rw [← ho] at hx
    simp only [cntL, List.mem_map, List.mem_range] at hx
    obtain ⟨i, hi, rfl⟩ := hx
    have := ordF_lt (neg := neg) hi
    show 0 ≤ ((ordF l.length neg i : Nat) : Int) ∧ ((ordF l.length neg i : Nat) : Int) < (l.length : Int)
    omega
  have hoz : o.length ≤ 1000000 := by omega
  have eo := len_encI o
  rw [hol] at eo
  rw [ho] at f3
  simp only [V_seq, V_skip, V_block, V_region, V_cond, brW_false, W_nil, W_cons, effOp2, KN_seq, asB, effOp, effPure, effNew, effBox, effMake, effCall, giveUp, hasAll, Option.isSome_some, skipE, pureV, partV, loadV, lenV, solid, IV.cells, ofC, strip, lkT, lkH, ISt.app, opI, gO, gB, allB, gval, wrapG, dstOK, setD, mentTm, mentHp, IV.ment, IV.mentL, zeroElt, oneI, noId', lendV, lendP, lent, lentP, idsV, idsL, flat, clean, callArgs, callFn, allLent, enumT, conv, conv0, convL, IBlk.shape, Op.operands, Call.operands, List.append_toArray, reduceIte, reduceCtorEq, cond_true, cond_false, Bool.or_false, Bool.or_true, Bool.and_true, Bool.not_true, Nat.reduceAdd, Nat.reduceSub, Nat.reduceMul, Nat.reduceLT, Nat.reduceLeDiff, Nat.reduceEqDiff, Nat.reduceBEq, Nat.zero_add, ne_eq, not_false_eq_true, beq_self_eq_true, true_and, and_true, and_false, and_self, implies_true, List.map_cons, List.map_nil, List.nil_append, List.cons_append, List.append_nil, List.all_cons, List.all_nil, Option.map_some, List.getD_cons_zero, List.length_cons, List.length_nil, List.take_succ_cons, List.take_nil, List.drop_zero, ex_clo, or_true, or_self, Bool.true_eq_false, Bool.false_eq_true, tab35, tab39, tab62, hN, isPs_enc, toPs_enc, isIs_enc, toIs_enc, SLe0, convTm, convHp, convB, sm, effH, mkHC0, mkHC1, lendM, lentM, lentI, allHere, addIds, idsB, flatIds, reach, posn, renV, renL, renB, renH, numB, subHp, fwd, bk, bwd, nones, keyOK, noSl, noSlL, flatBs, List.contains, List.elem, Option.isSome_some, List.nodup_nil, List.nodup_cons, List.not_mem_nil, or_false, Option.getD_some, lk_impl_Canonical_h_impl_simple, lk_impl_Canonical_h_impl_counter, sp_impl_simple, sp_impl_counter, lh_impl_Canonical_h_impl_simple, lh_impl_Canonical_h_impl_counter, lh_impl_Canonical_h_slices_IndexFunc_int_int, hs_slices_IndexFunc_int_int, hs, el, hm, h1, hz, hneg, ho, hoz, f3, eo]
  refine ⟨hob, ⟨by omega, by omega, by omega, by omega⟩, ?_⟩
  refine V_loop (α := Nat) ⟨tabOK, mixed, gok_impl_Canonical_h, hok_impl_Canonical_h⟩ (by kernel_rfl) (fun i => i ≤ l.length) (fun i => ⟨[(20, .num .i64 i), (19, .num .i64 l.length), (18, .sl 1 (encI o)), (3, .sl 1 (encI o)), (4, .num .i64 f), (5, .ref 17 0 i true), (1, .ptr 1 0)], [(17, some (.arr 2 35 (encPs (canN l neg f i)))), (1, some (.box 39 [.sl 2 (encPs l)]))]⟩) (fun i => l.length - i) 0 id (Nat.zero_le _) (by simp [SLe, SLe0, convTm, convHp, convB, conv, conv0, convL, lkT, lkH, clean, canN, encPs]) ?_
  intro i hi
  have ee : (encPs (canN l neg f i)).length = i := by rw [len_encPs, canN_len]
  have hx : ∃ k ty es, IBlk.arr 2 35 (encPs (canN l neg f i)) = IBlk.arr k ty es := ⟨_, _, _, rfl⟩
  simp only [V_seq, V_region, V_cond, W_nil, W_cons, effOp2, KN_seq, asB, effOp, effPure, pureV, binV, strip, lkT, ISt.app, opI, gO, gB, allB, gval, wrapG, dstOK, setD, Op.operands, reduceIte, Nat.reduceLT, Nat.reduceEqDiff, true_and, and_self, implies_true, List.nil_append, List.cons_append, hN]
  refine brW_some (fun h => ?_) (fun h => ?_)
  · have hi' : i < l.length := by simpa using h
    have hw := wr_succ hi' (by rw [maxLen_eq]; omega)
    have w1 : IntKind.i64.wrap ((f : Int) + (i : Int)) = ((f + i : Nat) : Int) := by rw [wr (by omega) (by omega)]; omega
    have t1 : ((f + i : Nat) : Int).tmod (l.length : Int) = (((f + i) % l.length : Nat) : Int) := by rw [Int.tmod_eq_emod_of_nonneg (by omega)]; simp
    have hml : (f + i) % l.length < l.length := Nat.mod_lt _ (by omega)
    have hst := canN_succ l neg f i
    have hor := ordF_lt (neg := neg) hml
    have g1 := getD_encI (l := o) (i := (f + i) % l.length) (by omega)
    rw [hoat _ hml] at g1
    have g2 := getD_encPs hor
    generalize (f + i) % l.length = q at *
    generalize ordF l.length neg q = r at *
    simp only [V_seq, V_skip, V_block, V_region, V_draw, drawW, WS_nil, pairsOf, W_nil, W_cons, effOp2, WI_nil, WI_cons, KN_seq, KN_block, KN_back, dynOK, indB, farB, seeB, see, isStore, freshB, heapy, effOp, effPure, effNew, effBuildSlice, effFrz, frz, tmpsOf, effAppend, effZeros, skipE, pureV, srcV, refId, binV, partV, eltV, loadV, iaddrV, lenV, ofC, strip, lkT, lkH, ISt.app, opI, gO, gB, allB, gval, wrapG, dstOK, setD, mentTm, mentHp, IV.ment, IV.mentL, partsL, eltsI, eltI, oneI, noId', Op.operands, Call.operands, List.append_toArray, reduceIte, reduceCtorEq, cond_true, cond_false, Bool.or_false, Bool.or_true, Bool.and_true, Bool.and_false, Bool.and_eq_true, Bool.not_false, Nat.reduceAdd, Nat.reduceMul, Nat.reduceLT, Nat.reduceLeDiff, Nat.reduceEqDiff, Nat.reduceBEq, Nat.zero_add, ne_eq, not_false_eq_true, beq_self_eq_true, true_and, and_true, and_false, and_self, implies_true, forall_const, List.map_cons, List.map_nil, List.nil_append, List.cons_append, List.append_nil, List.all_cons, List.all_nil, Option.some.injEq, List.getD_cons_zero, List.getD_cons_succ, List.length_cons, List.length_nil, List.take_succ_cons, List.take_zero, List.take_nil, List.drop_zero, tab3, tab35, tab39, tab62, hN, Int.toNat_natCast, el, eo, hw, w1, t1, g1, g2, ee]
    repeat refine And.intro (by first | omega | (simp; done) | (simp; omega)) ?_
    refine ⟨i + 1, fun x => if x = 17 then 37 else x, by simp only []; omega, by simp only []; omega, ?_⟩
    have hen : encPs (canN l neg f (i + 1)) = (encPs (canN l neg f i)).take i ++ [IV.agg [.num .i64 (pAt l r).1, .num .i64 (pAt l r).2]] := by
      rw [hst, ← encPs_app, List.take_of_length_le (Nat.le_of_eq ee)]; rfl
    simp only [hen]
    simp [SLe, SLe0, convTm, convHp, convB, conv, conv0, convL, lkT, lkH, clean]
    exact ⟨(List.take_of_length_le (by rw [List.length_append, List.length_take]; exact Nat.le_refl _)).symm, fun x a1 a2 a3 => by omega⟩
  · have hie : i = l.length := by simp at h; omega
    subst hie
    rw [hall, ← hcp] at ee hx ⊢
    simp only [V_seq, V_ret, V_exit, V_region, W_nil, W_cons, effOp2, KN_seq, KXr_nil, KXe_nil, KXe_seq, KXe_block, KXe_back, QE, effOp, effPure, Option.isSome_some, pureV, strip, lkT, lkH, ISt.app, opI, gO, gB, allB, gval, wrapG, dstOK, setD, conv, conv0, Op.operands, reduceIte, Nat.reduceLT, Nat.reduceEqDiff, not_false_eq_true, true_and, and_true, and_self, implies_true, List.map_cons, List.map_nil, List.nil_append, List.cons_append, hN, FinH, resA, resV, SLe, SLe0, convTm, convHp, convB, Option.isSome_some, List.nodup_nil, List.nodup_cons, List.not_mem_nil]
    exact ⟨fun x => if x = 0 then 17 else x, by simp; omega⟩
def hs_impl_Canonical_h : HSpec := ⟨[true], fun xs hp => match xs, hp with | [.sl 2 es], [] => (isPs es) ∧ ((fun (l : List Pt) => simpB l = true) (toPs es)) | _, _ => False, fun xs hp => match xs, hp with | [.sl 2 es], [] => (fun (l : List Pt) => (.ref 0 0 l.length true : IV)) (toPs es) | _, _ => .junk, fun xs hp => match xs, hp with | [.sl 2 es], [] => (fun (l : List Pt) => ([(0, .arr 2 35 (encPs (canP l)))] : List (Nat × IBlk))) (toPs es) | _, _ => []⟩
theorem hk_impl_Canonical_h : ∀ args hp, hs_impl_Canonical_h.pre args hp → HCall Try.prog 70 args (sm hp) (hs_impl_Canonical_h.val args hp) (sm (hs_impl_Canonical_h.hval args hp)) := by
  intro args hp h
  unfold hs_impl_Canonical_h at h ⊢; simp only at h ⊢; split at h
  · obtain ⟨h1, h2⟩ := h; obtain ⟨l, rfl⟩ := isP_ex h1; rw [toPs_enc] at *; exact c_impl_Canonical_h l h2
  · exact h.elim
theorem en_impl_Canonical_h : Enters Try.prog 70 := enters_of Try.func70 (by kernel_rfl) rfl


def g_impl_Canonical_e0 : List (Nat × PSpec) := [(90, sp_impl_simple), (140, sp_impl_counter)]
theorem gok_impl_Canonical_e0 : GOK Try.prog g_impl_Canonical_e0 := gok_cons gk_impl_simple en_impl_simple (gok_cons gk_impl_counter en_impl_counter (gok0))
theorem lk_impl_Canonical_e0_impl_simple : lkG g_impl_Canonical_e0 90 = sp_impl_simple := rfl
theorem lk_impl_Canonical_e0_impl_counter : lkG g_impl_Canonical_e0 140 = sp_impl_counter := rfl
def h_impl_Canonical_e0 : List (Nat × HSpec) := [(141, hs_slices_IndexFunc_int_int)]
theorem hok_impl_Canonical_e0 : HOK Try.prog h_impl_Canonical_e0 := hok_cons hk_slices_IndexFunc_int_int en_slices_IndexFunc_int_int (hok0)
theorem lh_impl_Canonical_e0_impl_simple : lkHS h_impl_Canonical_e0 90 = none := rfl
theorem lh_impl_Canonical_e0_impl_counter : lkHS h_impl_Canonical_e0 140 = none := rfl
theorem lh_impl_Canonical_e0_slices_IndexFunc_int_int : lkHS h_impl_Canonical_e0 141 = some hs_slices_IndexFunc_int_int := rfl
theorem c_impl_Canonical_e0 (l : List Pt) (hs : simpB l = false) : ICall Try.prog 70 [.sl 2 (encPs l)] (.sl 2 []) := by
  refine icall_V (G := g_impl_Canonical_e0) (H := h_impl_Canonical_e0) [(9, [(0, 13), (1, 13), (2, 13), (3, 13), (4, 13), (5, 13), (6, 13), (7, 13), (8, 13), (9, 13), (10, 13), (11, 13), (1, 14), (2, 14), (3, 14), (4, 14), (5, 14), (6, 14), (7, 14), (8, 14), (9, 14), (10, 14), (11, 14), (12, 14)])] tabOK mixed gok_impl_Canonical_e0 hok_impl_Canonical_e0 Try.func70 rfl Try.ntmps70 Try.results70 rfl (by kernel_rfl) fun F hN hlen => ?_
  simp only [V_seq, V_ret, V_region, V_cond, brW_true, W_nil, W_cons, effOp2, KN_seq, KXr_nil, KXr_seq, QE, asB, effOp, effPure, effNew, effBox, effCall, giveUp, hasAll, skipE, pureV, partV, loadV, solid, IV.cells, ofC, strip, lkT, lkH, ISt.app, opI, gO, gB, allB, gval, wrapG, dstOK, setD, mentTm, mentHp, IV.ment, oneI, lendV, lendP, lent, lentP, idsV, idsL, flat, clean, callArgs, callFn, allLent, enumT, Gives, Ideal.Fin, conv, conv0, Op.operands, reduceIte, reduceCtorEq, cond_true, Bool.or_false, Bool.and_true, Bool.not_true, Bool.not_false, Nat.reduceLT, Nat.reduceLeDiff, Nat.reduceEqDiff, Nat.zero_add, and_self, implies_true, List.map_cons, List.map_nil, List.nil_append, List.cons_append, List.append_nil, List.all_cons, List.all_nil, List.getD_cons_zero, List.length_cons, List.length_nil, List.take_succ_cons, List.take_nil, List.drop_zero, ex_clo, or_self, tab39, hN, isPs_enc, toPs_enc, lk_impl_Canonical_e0_impl_simple, sp_impl_simple, lh_impl_Canonical_e0_impl_simple, hs]
def sp_impl_Canonical_e0 : PSpec := ⟨fun xs => match xs with | [.sl 2 les] => isPs les ∧ ((fun (l : List Pt) => simpB l = false) (toPs les)) | _ => False, fun xs => match xs with | [.sl _ les] => (fun (l : List Pt) => .sl 2 []) (toPs les) | _ => .junk, false⟩
theorem gk_impl_Canonical_e0 : ∀ args, sp_impl_Canonical_e0.pre args → ICall Try.prog 70 args (sp_impl_Canonical_e0.val args) := by
  intro args h
  unfold sp_impl_Canonical_e0 at h ⊢; simp only at h ⊢; split at h
  · obtain ⟨h0, h1⟩ := h
    obtain ⟨l0, rfl⟩ := isP_ex h0
    simp only [toPs_enc] at *
    exact c_impl_Canonical_e0 _ h1
  · exact h.elim
theorem en_impl_Canonical_e0 : Enters Try.prog 70 := enters_of Try.func70 (by kernel_rfl) rfl

def g_impl_Canonical_e : List (Nat × PSpec) := [(90, sp_impl_simple), (140, sp_impl_counter)]
theorem gok_impl_Canonical_e : GOK Try.prog g_impl_Canonical_e := gok_cons gk_impl_simple en_impl_simple (gok_cons gk_impl_counter en_impl_counter (gok0))
theorem lk_impl_Canonical_e_impl_simple : lkG g_impl_Canonical_e 90 = sp_impl_simple := rfl
theorem lk_impl_Canonical_e_impl_counter : lkG g_impl_Canonical_e 140 = sp_impl_counter := rfl
def h_impl_Canonical_e : List (Nat × HSpec) := [(141, hs_slices_IndexFunc_int_int)]
theorem hok_impl_Canonical_e : HOK Try.prog h_impl_Canonical_e := hok_cons hk_slices_IndexFunc_int_int en_slices_IndexFunc_int_int (hok0)
theorem lh_impl_Canonical_e_impl_simple : lkHS h_impl_Canonical_e 90 = none := rfl
theorem lh_impl_Canonical_e_impl_counter : lkHS h_impl_Canonical_e 140 = none := rfl
theorem lh_impl_Canonical_e_slices_IndexFunc_int_int : lkHS h_impl_Canonical_e 141 = some hs_slices_IndexFunc_int_int := rfl
theorem c_impl_Canonical_e (l : List Pt) (hs : simpB l = false) : ICallF Try.prog 70 [.sl 2 (encPs l)] (.sl 2 []) := by
  exact icallF_nil (c_impl_Canonical_e0 l hs)
def sp_impl_Canonical_e : PSpec := ⟨fun xs => match xs with | [.sl 2 les] => isPs les ∧ ((fun (l : List Pt) => simpB l = false) (toPs les)) | _ => False, fun xs => match xs with | [.sl _ les] => (fun (l : List Pt) => .sl 2 []) (toPs les) | _ => .junk, true⟩
theorem gk_impl_Canonical_e : ∀ args, sp_impl_Canonical_e.pre args → ICallF Try.prog 70 args (sp_impl_Canonical_e.val args) ∧ ∀ id, (sp_impl_Canonical_e.val args).ment id = false := by
  intro args h
  unfold sp_impl_Canonical_e at h ⊢; simp only at h ⊢; split at h
  · obtain ⟨h0, h1⟩ := h
    obtain ⟨l0, rfl⟩ := isP_ex h0
    simp only [toPs_enc] at *
    exact ⟨c_impl_Canonical_e _ h1, fun id => rfl⟩
  · exact h.elim
theorem en_impl_Canonical_e : Enters Try.prog 70 := enters_of Try.func70 (by kernel_rfl) rfl


theorem kF_step (S : List Pt) (i : Nat) : kF S (i + 1) = if ltP (pA S i) (pA S (kF S i)) then i else kF S i := rfl


def g_e_excan_a : List (Nat × PSpec) := [(46, sp_laws_szPointS), (70, sp_impl_Canonical_e), (51, sp_laws_eqPointS), (63, sp_laws_heldPointS)]
theorem gok_e_excan_a : GOK Try.prog g_e_excan_a := gok_cons gk_laws_szPointS en_laws_szPointS (gok_consO gk_impl_Canonical_e en_impl_Canonical_e (gok_cons gk_laws_eqPointS en_laws_eqPointS (gok_cons gk_laws_heldPointS en_laws_heldPointS (gok0))))
theorem lk_e_excan_a_laws_szPointS : lkG g_e_excan_a 46 = sp_laws_szPointS := rfl
theorem lk_e_excan_a_impl_Canonical_e : lkG g_e_excan_a 70 = sp_impl_Canonical_e := rfl
theorem lk_e_excan_a_laws_eqPointS : lkG g_e_excan_a 51 = sp_laws_eqPointS := rfl
theorem lk_e_excan_a_laws_heldPointS : lkG g_e_excan_a 63 = sp_laws_heldPointS := rfl
def h_e_excan_a : List (Nat × HSpec) := [(48, hs_laws_toPointS), (52, hs_laws_markPointS_or)]
theorem hok_e_excan_a : HOK Try.prog h_e_excan_a := hok_cons hk_laws_toPointS en_laws_toPointS (hok_cons hk_laws_markPointS_or en_laws_markPointS_or (hok0))
theorem lh_e_excan_a_laws_szPointS : lkHS h_e_excan_a 46 = none := rfl
theorem lh_e_excan_a_impl_Canonical_e : lkHS h_e_excan_a 70 = none := rfl
theorem lh_e_excan_a_laws_eqPointS : lkHS h_e_excan_a 51 = none := rfl
theorem lh_e_excan_a_laws_heldPointS : lkHS h_e_excan_a 63 = none := rfl
theorem lh_e_excan_a_laws_toPointS : lkHS h_e_excan_a 48 = some hs_laws_toPointS := rfl
theorem lh_e_excan_a_laws_markPointS_or : lkHS h_e_excan_a 52 = some hs_laws_markPointS_or := rfl
def g_e_excan_b : List (Nat × PSpec) := [(46, sp_laws_szPointS), (51, sp_laws_eqPointS), (63, sp_laws_heldPointS)]
theorem gok_e_excan_b : GOK Try.prog g_e_excan_b := gok_cons gk_laws_szPointS en_laws_szPointS (gok_cons gk_laws_eqPointS en_laws_eqPointS (gok_cons gk_laws_heldPointS en_laws_heldPointS (gok0)))
theorem lk_e_excan_b_laws_szPointS : lkG g_e_excan_b 46 = sp_laws_szPointS := rfl
theorem lk_e_excan_b_laws_eqPointS : lkG g_e_excan_b 51 = sp_laws_eqPointS := rfl
theorem lk_e_excan_b_laws_heldPointS : lkG g_e_excan_b 63 = sp_laws_heldPointS := rfl
def h_e_excan_b : List (Nat × HSpec) := [(48, hs_laws_toPointS), (70, hs_impl_Canonical_h), (52, hs_laws_markPointS)]
theorem hok_e_excan_b : HOK Try.prog h_e_excan_b := hok_cons hk_laws_toPointS en_laws_toPointS (hok_cons hk_impl_Canonical_h en_impl_Canonical_h (hok_cons hk_laws_markPointS en_laws_markPointS (hok0)))
theorem lh_e_excan_b_laws_szPointS : lkHS h_e_excan_b 46 = none := rfl
theorem lh_e_excan_b_laws_eqPointS : lkHS h_e_excan_b 51 = none := rfl
theorem lh_e_excan_b_laws_heldPointS : lkHS h_e_excan_b 63 = none := rfl
theorem lh_e_excan_b_laws_toPointS : lkHS h_e_excan_b 48 = some hs_laws_toPointS := rfl
theorem lh_e_excan_b_impl_Canonical_h : lkHS h_e_excan_b 70 = some hs_impl_Canonical_h := rfl
theorem lh_e_excan_b_laws_markPointS : lkHS h_e_excan_b 52 = some hs_laws_markPointS := rfl

end Go.Proofs.Ytlgjhojihgmfhaa
