/- Contracts: the reference's sweep. -/
import Derived.Test.YteaanfpkakaaoaaB47
set_option linter.unusedVariables false
set_option linter.unusedSimpArgs false
set_option maxHeartbeats 3200000
set_option maxRecDepth 100000
namespace Go.Proofs.Yteaanfpkakaaoaa
open Go Go.Ideal Go.Pl Go.Sort

def pvB (S : List Bool) (m i : Nat) : Bool := S.getD ((i + m - 1) % m) false
def addR (R : List Int) (S : List Bool) (n : Int) : Nat → List Int
  | 0 => []
  | i + 1 => (addR R S n i ++ if !pvB S R.length i || !S.getD i false then [R.getD i 0] else []) ++ if !pvB S R.length i && S.getD i false then [n] else []
theorem addR_len (R : List Int) (S : List Bool) (n : Int) : ∀ i, (addR R S n i).length ≤ 2 * i
  | 0 => Nat.le_refl _
  | i + 1 => by
    have := addR_len R S n i
    rw [addR, List.length_append, List.length_append]
    split <;> split <;> simp <;> omega
theorem addR_nxt {l : List Pt} {r : List Nat} {q : Nat} {S : List Bool} (hS : S = (List.range r.length).map (seenB l r q)) : ∀ i, i ≤ r.length → addR (r.map fun n => ((n : Nat) : Int)) S q i = (nxtL l r q i).map fun n => ((n : Nat) : Int)
  | 0, _ => rfl
  | i + 1, hi => by
    have at' : ∀ j, j < r.length → S.getD j false = seenB l r q j := fun j hj => by rw [hS]; simp [List.getD, hj]
    have hp : pvB S (r.map fun n => ((n : Nat) : Int)).length i = prvB l r q i := by
      rw [pvB, List.length_map, at' _ (Nat.mod_lt _ (by omega))]; rfl
    have hr : (r.map fun n => ((n : Nat) : Int)).getD i 0 = ((rA r i : Nat) : Int) := by simp [List.getD, rA, show i < r.length by omega]
    rw [addR, nxtL, addR_nxt hS i (by omega), hp, at' i (by omega), hr]
    cases prvB l r q i <;> cases seenB l r q i <;> simp
def g_spec_addToRing : List (Nat × PSpec) := []
theorem gok_spec_addToRing : GOK Try.prog g_spec_addToRing := gok0
def h_spec_addToRing : List (Nat × HSpec) := []
theorem hok_spec_addToRing : HOK Try.prog h_spec_addToRing := hok0
theorem c_spec_addToRing (R : List Int) (S : List Bool) (n : Int) (hRS : S.length = R.length) (hsz : R.length ≤ 2000000) : ICall Try.prog 56 [.sl 1 (encI R), .sl 1 (encBl S), .num .i64 n] (.sl 1 (encI (addR R S n R.length))) := by
  refine icall_V (G := g_spec_addToRing) (H := []) [] tabOK mixed gok_spec_addToRing hok_spec_addToRing Try.func56 rfl Try.ntmps56 Try.results56 rfl (by kernel_rfl) fun F hN hlen => ?_
  have er := len_encI R
  have es := len_encBl S
  rw [hRS] at es
  simp only [V_seq, V_block, V_region, W_nil, W_cons, effOp2, KN_seq, effOp, effPure, effNew, effBuildSlice, effFrz, frz, tmpsOf, skipE, pureV, lenV, ofC, strip, lkT, ISt.app, opI, gO, gB, allB, gval, wrapG, dstOK, setD, mentTm, mentHp, IV.ment, partsL, eltsI, enumT, Op.operands, Call.operands, List.append_toArray, reduceIte, reduceCtorEq, cond_true, Bool.or_false, Nat.reduceAdd, Nat.reduceMul, Nat.reduceLT, Nat.reduceLeDiff, Nat.reduceEqDiff, Nat.zero_add, ne_eq, not_false_eq_true, true_and, and_self, implies_true, List.nil_append, List.cons_append, List.append_nil, List.length_nil, tab3, tab55, hN, er]
  refine V_loop (α := Nat) ⟨tabOK, mixed, gok_spec_addToRing, hok_spec_addToRing⟩ (by kernel_rfl) (fun j => j ≤ R.length) (fun j => ⟨[(9, .num .i64 j), (8, .num .i64 R.length), (7, .ref 11 0 (addR R S n j).length true), (2, .num .i64 n), (1, .sl 1 (encBl S)), (0, .sl 1 (encI R))], [(11, some (.arr 1 3 (encI (addR R S n j))))]⟩) (fun j => R.length - j) 0 id (Nat.zero_le _) (by simp [SLe, SLe0, convTm, convHp, convB, conv, conv0, lkT, lkH, clean, addR, encI]) ?_
  intro j hj
  have en8 := len_encI (addR R S n j)
  have hx : ∃ k' ty es, IBlk.arr 1 3 (encI (addR R S n j)) = IBlk.arr k' ty es := ⟨_, _, _, rfl⟩
  have hnl := addR_len R S n j
  simp only [V_seq, V_region, V_cond, W_nil, W_cons, effOp2, KN_seq, asB, effOp, effPure, pureV, binV, strip, lkT, ISt.app, opI, gO, gB, allB, gval, wrapG, dstOK, setD, Op.operands, reduceIte, reduceCtorEq, Nat.reduceLT, Nat.reduceEqDiff, true_and, and_self, implies_true, List.nil_append, List.cons_append, hN]
  refine brW_some (fun h => ?_) (fun h => ?_)
  · have hj' : j < R.length := by simpa using h
    have hwj := wr_succ hj' (by rw [maxLen_eq]; omega)
    have w3 : IntKind.i64.wrap ((j : Int) + (R.length : Int)) = ((j + R.length : Nat) : Int) := by rw [wr (by omega) (by omega)]; omega
    have w4 : IntKind.i64.wrap (((j + R.length : Nat) : Int) - 1) = ((j + R.length - 1 : Nat) : Int) := by rw [wr (by omega) (by omega)]; omega
    have hmj : (j + R.length - 1) % R.length < R.length := Nat.mod_lt _ (by omega)
    have t1 : ((j + R.length - 1 : Nat) : Int).tmod (R.length : Int) = (((j + R.length - 1) % R.length : Nat) : Int) := by rw [Int.tmod_eq_emod_of_nonneg (by omega)]; simp
    have d0 : ((R.length : Int) == 0) = false := by rw [beq_eq_false_iff_ne]; omega
    have k1 := getD_encI hj'
    have k5 := getD_encBl (l := S) (i := j) (by omega)
    have k6 : (encBl S).getD ((j + R.length - 1) % R.length) .junk = .bool (pvB S R.length j) := getD_encBl (by omega)
    have hnx : addR R S n (j + 1) = (addR R S n j ++ if !pvB S R.length j || !S.getD j false then [R.getD j 0] else []) ++ if !pvB S R.length j && S.getD j false then [n] else [] := rfl
    generalize (j + R.length - 1) % R.length = jj at *
    generalize R.getD j 0 = a at *
    generalize S.getD j false = s at *
    cases z1 : pvB S R.length j with
    | false =>
      cases z2 : s with
      | false =>
        rw [z1, z2] at hnx
        have hnx2 : addR R S n (j + 1) = addR R S n j ++ [a] := by rw [hnx]; simp
        have hen : encI (addR R S n (j + 1)) = (encI (addR R S n j)).take (addR R S n j).length ++ [IV.num .i64 a] := by rw [hnx2, ← encI_app, take_encI]; rfl
        have hln : (addR R S n (j + 1)).length = (addR R S n j).length + 1 := by rw [hnx2, List.length_append]; rfl
        simp only [V_seq, V_skip, V_block, V_region, V_cond, brW_true, brW_false, W_nil, W_cons, effOp2, KN_seq, KN_block, KN_back, asB, effOp, effPure, effPick, effNew, effBuildSlice, effFrz, frz, tmpsOf, effAppend, effZeros, skipE, pureV, pickV, srcV, refId, binV, eltV, loadV, iaddrV, ofC, strip, lkT, lkH, ISt.app, opI, gO, gB, allB, gval, wrapG, dstOK, setD, mentTm, mentHp, IV.ment, partsL, eltsI, eltI, noId', Op.operands, reduceIte, reduceCtorEq, cond_true, cond_false, Bool.or_false, Bool.not_false, Nat.reduceMul, Nat.reduceLT, Nat.reduceLeDiff, Nat.reduceEqDiff, Nat.reduceBEq, Nat.zero_add, ne_eq, not_false_eq_true, true_and, and_true, false_and, and_self, false_implies, implies_true, forall_const, List.nil_append, List.cons_append, List.append_nil, Option.some.injEq, Option.bind_some, List.getElem?_cons_zero, List.getElem?_cons_succ, List.length_cons, List.length_nil, List.take_succ_cons, List.take_nil, List.drop_zero, bft, btf, Bool.true_eq_false, Bool.false_eq_true, tab3, tab4, tab55, tab67, hN, Int.toNat_natCast, er, en8, es, hwj, w3, w4, t1, k1, k5, k6, z1, z2]
        repeat refine And.intro (by first | omega | (simp; done) | (simp; omega)) ?_
        refine ⟨j + 1, fun x => if x = 11 then 43 else x, by simp only []; omega, by simp only []; omega, ?_⟩
        simp only [hen, hln]
        simp [SLe, SLe0, convTm, convHp, convB, conv, conv0, lkT, lkH, clean]
        exact ⟨(List.take_of_length_le (by rw [List.length_append, List.length_take]; exact Nat.le_refl _)).symm, fun id a c d => by omega⟩
      | true =>
        rw [z1, z2] at hnx
        have hnx2 : addR R S n (j + 1) = (addR R S n j ++ [a]) ++ [n] := by rw [hnx]; simp
        have hen1 : (encI (addR R S n j)).take (addR R S n j).length ++ [IV.num .i64 a] = encI (addR R S n j ++ [a]) := by rw [← encI_app, take_encI]; rfl
        have hl1 : (encI (addR R S n j ++ [a])).length = (addR R S n j).length + 1 := by rw [len_encI, List.length_append]; rfl
        have hen : encI (addR R S n (j + 1)) = (encI (addR R S n j ++ [a])).take ((addR R S n j).length + 1) ++ [IV.num .i64 n] := by rw [hnx2, ← encI_app, ← hl1, List.take_length]; rfl
        have hln : (addR R S n (j + 1)).length = (addR R S n j).length + 1 + 1 := by rw [hnx2, List.length_append, List.length_append]; rfl
        have hx9 : ∃ k' ty es, IBlk.arr 1 3 (encI (addR R S n j ++ [a])) = IBlk.arr k' ty es := ⟨_, _, _, rfl⟩
        simp only [V_seq, V_skip, V_block, V_region, V_cond, brW_true, W_nil, W_cons, effOp2, KN_seq, KN_block, KN_back, asB, effOp, effPure, effPick, effNew, effBuildSlice, effFrz, frz, tmpsOf, effAppend, effZeros, skipE, pureV, pickV, srcV, refId, binV, eltV, loadV, iaddrV, ofC, strip, lkT, lkH, ISt.app, opI, gO, gB, allB, gval, wrapG, dstOK, setD, mentTm, mentHp, IV.ment, partsL, eltsI, eltI, noId', Op.operands, reduceIte, reduceCtorEq, cond_true, Bool.or_false, Bool.not_true, Bool.not_false, Nat.reduceMul, Nat.reduceLT, Nat.reduceLeDiff, Nat.reduceEqDiff, Nat.reduceBEq, Nat.zero_add, ne_eq, not_false_eq_true, beq_self_eq_true, true_and, and_true, false_and, and_self, false_implies, implies_true, forall_const, List.nil_append, List.cons_append, List.append_nil, Option.some.injEq, Option.bind_some, List.getElem?_cons_zero, List.getElem?_cons_succ, List.length_cons, List.length_nil, List.take_succ_cons, List.take_nil, List.drop_zero, btf, Bool.true_eq_false, Bool.false_eq_true, tab3, tab4, tab55, tab67, hN, Int.toNat_natCast, er, en8, es, hwj, w3, w4, t1, k1, k5, k6, z1, z2, hen1, hl1]
        repeat refine And.intro (by first | omega | (simp; done) | (simp; omega)) ?_
        refine ⟨j + 1, fun x => if x = 11 then 55 else x, by simp only []; omega, by simp only []; omega, ?_⟩
        simp only [hen, hln]
        simp [SLe, SLe0, convTm, convHp, convB, conv, conv0, lkT, lkH, clean]
        exact ⟨(List.take_of_length_le (by rw [List.length_append, List.length_take]; exact Nat.le_refl _)).symm, fun id a c d => by omega⟩
    | true =>
      cases z2 : s with
      | false =>
        rw [z1, z2] at hnx
        have hnx2 : addR R S n (j + 1) = addR R S n j ++ [a] := by rw [hnx]; simp
        have hen : encI (addR R S n (j + 1)) = (encI (addR R S n j)).take (addR R S n j).length ++ [IV.num .i64 a] := by rw [hnx2, ← encI_app, take_encI]; rfl
        have hln : (addR R S n (j + 1)).length = (addR R S n j).length + 1 := by rw [hnx2, List.length_append]; rfl
        simp only [V_seq, V_skip, V_block, V_region, V_cond, brW_true, brW_false, W_nil, W_cons, effOp2, KN_seq, KN_block, KN_back, asB, effOp, effPure, effPick, effNew, effBuildSlice, effFrz, frz, tmpsOf, effAppend, effZeros, skipE, pureV, pickV, srcV, refId, binV, eltV, loadV, iaddrV, ofC, strip, lkT, lkH, ISt.app, opI, gO, gB, allB, gval, wrapG, dstOK, setD, mentTm, mentHp, IV.ment, partsL, eltsI, eltI, noId', Op.operands, reduceIte, reduceCtorEq, cond_true, cond_false, Bool.or_false, Bool.not_true, Bool.not_false, Nat.reduceMul, Nat.reduceLT, Nat.reduceLeDiff, Nat.reduceEqDiff, Nat.reduceBEq, Nat.zero_add, ne_eq, not_false_eq_true, beq_self_eq_true, true_and, and_true, and_self, false_implies, implies_true, forall_const, List.nil_append, List.cons_append, List.append_nil, Option.some.injEq, Option.bind_some, List.getElem?_cons_zero, List.getElem?_cons_succ, List.length_cons, List.length_nil, List.take_succ_cons, List.take_nil, List.drop_zero, bft, Bool.false_eq_true, tab3, tab4, tab55, tab67, hN, Int.toNat_natCast, er, en8, es, hwj, w3, w4, t1, k1, k5, k6, z1, z2]
        repeat refine And.intro (by first | omega | (simp; done) | (simp; omega)) ?_
        refine ⟨j + 1, fun x => if x = 11 then 43 else x, by simp only []; omega, by simp only []; omega, ?_⟩
        simp only [hen, hln]
        simp [SLe, SLe0, convTm, convHp, convB, conv, conv0, lkT, lkH, clean]
        exact ⟨(List.take_of_length_le (by rw [List.length_append, List.length_take]; exact Nat.le_refl _)).symm, fun id a c d => by omega⟩
      | true =>
        rw [z1, z2] at hnx
        have hnx2 : addR R S n (j + 1) = addR R S n j := by rw [hnx]; simp
        simp only [V_seq, V_skip, V_block, V_region, V_cond, brW_false, W_nil, W_cons, effOp2, KN_seq, KN_block, KN_back, asB, effOp, effPure, effPick, pureV, pickV, binV, eltV, loadV, iaddrV, ofC, strip, lkT, ISt.app, opI, gO, gB, allB, gval, wrapG, dstOK, setD, Op.operands, reduceIte, reduceCtorEq, cond_true, cond_false, Bool.not_true, Nat.reduceLT, Nat.reduceEqDiff, ne_eq, not_false_eq_true, beq_self_eq_true, true_and, and_true, and_self, implies_true, forall_const, List.nil_append, List.cons_append, Option.bind_some, List.getElem?_cons_zero, List.getElem?_cons_succ, Bool.true_eq_false, Bool.false_eq_true, tab4, tab67, hN, Int.toNat_natCast, es, hwj, w3, w4, t1, k5, k6, z1, z2]
        repeat refine And.intro (by first | omega | (simp; done) | (simp; omega)) ?_
        refine ⟨j + 1, id, by simp only []; omega, by simp only []; omega, ?_⟩
        simp only [hnx2]
        exact by simp [SLe, SLe0, convTm, convHp, convB, conv, conv0, lkT, lkH, clean]
  · have hje : j = R.length := by simp at h; omega
    subst hje
    have tk := take_encI (addR R S n R.length)
    simp only [V_seq, V_ret, V_exit, V_region, W_nil, W_cons, effOp2, KN_seq, KXr_nil, KXe_nil, KXe_seq, KXe_block, KXe_back, QE, effOp, effPure, pureV, strip, lkT, lkH, ISt.app, opI, gO, gB, allB, gval, wrapG, dstOK, setD, Gives, Ideal.Fin, conv, conv0, Op.operands, reduceIte, reduceCtorEq, Nat.reduceLT, Nat.reduceEqDiff, Nat.zero_add, ne_eq, true_and, and_self, implies_true, List.nil_append, List.cons_append, Option.some.injEq, List.drop_zero, hN]
    exact ⟨_, _, rfl, by rw [len_encI]; exact Nat.le_refl _, tk.symm, by simp⟩
def sp_spec_addToRing : PSpec := ⟨fun xs => match xs with | [.sl 1 Res, .sl 1 Ses, .num .i64 n] => isIs Res ∧ isBls Ses ∧ ((fun (R : List Int) (S : List Bool) (n : Int) => S.length = R.length) (toIs Res) (toBls Ses) n) ∧ ((fun (R : List Int) (S : List Bool) (n : Int) => R.length ≤ 2000000) (toIs Res) (toBls Ses) n) | _ => False, fun xs => match xs with | [.sl _ Res, .sl _ Ses, .num _ n] => (fun (R : List Int) (S : List Bool) (n : Int) => .sl 1 (encI (addR R S n R.length))) (toIs Res) (toBls Ses) n | _ => .junk, false⟩
theorem gk_spec_addToRing : ∀ args, sp_spec_addToRing.pre args → ICall Try.prog 56 args (sp_spec_addToRing.val args) := by
  intro args h
  unfold sp_spec_addToRing at h ⊢; simp only at h ⊢; split at h
  · obtain ⟨h0, h1, h2, h3⟩ := h
    obtain ⟨l0, rfl⟩ := isI_ex h0
    obtain ⟨l1, rfl⟩ := isBl_ex h1
    simp only [toIs_enc, toBls_enc] at *
    exact c_spec_addToRing _ _ _ h2 h3
  · exact h.elim
theorem en_spec_addToRing : Enters Try.prog 56 := enters_of Try.func56 (by kernel_rfl) rfl

theorem seen_take (l : List Pt) (r : List Nat) (q j : Nat) : ((List.range j).map (seenB l r q)).length = j := by simp
def g_spec_sweep : List (Nat × PSpec) := [(54, sp_spec_collinear), (55, sp_spec_cross), (56, sp_spec_addToRing)]
theorem gok_spec_sweep : GOK Try.prog g_spec_sweep := gok_cons gk_spec_collinear en_spec_collinear (gok_cons gk_spec_cross en_spec_cross (gok_cons gk_spec_addToRing en_spec_addToRing (gok0)))
theorem lk_spec_sweep_spec_collinear : lkG g_spec_sweep 54 = sp_spec_collinear := rfl
theorem lk_spec_sweep_spec_cross : lkG g_spec_sweep 55 = sp_spec_cross := rfl
theorem lk_spec_sweep_spec_addToRing : lkG g_spec_sweep 56 = sp_spec_addToRing := rfl
def h_spec_sweep : List (Nat × HSpec) := []
theorem hok_spec_sweep : HOK Try.prog h_spec_sweep := hok0
theorem c_spec_sweep (l : List Pt) (hs : siteB l = true) : ICall Try.prog 26 [.sl 2 (encPs l)] (.sl 3 (encTs (sweepP l))) := by
  refine icall_V (G := g_spec_sweep) (H := []) [(24, [(0, 12), (1, 12), (2, 12), (4, 12), (5, 12), (6, 12), (8, 12), (9, 12), (10, 12)])] tabOK mixed gok_spec_sweep hok_spec_sweep Try.func26 rfl Try.ntmps26 Try.results26 rfl (by kernel_rfl) fun F hN hlen => ?_
  obtain ⟨hk, hasc, hins⟩ := site_facts hs
  have hm := okPs_sm hk
  have h20 := okPs_len hk
  have el := len_encPs l
  -- where the sweep begins
  obtain ⟨N, f1, f2, f3, f4, hv⟩ : ∃ N, 2 ≤ N ∧ (2 ≤ l.length → N ≤ l.length) ∧ (l.length < 2 → N = 2) ∧ (∀ n, 2 ≤ n → n ≤ N → n < l.length → col3 (l.take (n + 1)) = decide (n < N)) ∧ sweepP l = (swp l N (l.length - N)).1 := by
    rcases Nat.lt_or_ge l.length 2 with c | c
    · refine ⟨2, Nat.le_refl _, fun h => by omega, fun _ => rfl, fun n _ _ h => by omega, ?_⟩
      unfold sweepP
      rw [if_pos c, show l.length - 2 = 0 by omega]; rfl
    · obtain ⟨e1, e2, e3, e4⟩ := fstN_facts c
      refine ⟨fstN l, e1, fun _ => e2, fun h => by omega, fun n h1 h2 h3 => ?_, by unfold sweepP; rw [if_neg (by omega)]⟩
      rw [Bool.eq_iff_iff, col_take hasc c (by omega), decide_eq_true_eq]
      constructor
      · intro ho
        rcases Nat.lt_or_ge n (fstN l) with q | q
        · exact q
        · have : n = fstN l := by omega
          exact absurd (ho n (by omega)) (by rw [this]; exact e4 (by omega))
      · intro hlt i hi
        exact e3 i (by omega)
  have e0 : encTs [] = [] := rfl
  simp only [V_seq, V_block, V_region, W_nil, W_cons, effOp2, KN_seq, effOp, effPure, effNew, effBuildSlice, effFrz, frz, tmpsOf, skipE, pureV, ofC, strip, lkT, ISt.app, opI, gO, gB, allB, gval, wrapG, dstOK, setD, mentTm, mentHp, IV.ment, partsL, eltsI, enumT, Op.operands, reduceIte, reduceCtorEq, cond_true, Bool.or_false, Nat.reduceMul, Nat.reduceLT, Nat.reduceLeDiff, Nat.reduceEqDiff, ne_eq, not_false_eq_true, true_and, and_self, implies_true, List.nil_append, List.cons_append, List.append_nil, List.length_nil, tab25, tab31, hN]
  refine V_loop (α := Nat) ⟨tabOK, mixed, gok_spec_sweep, hok_spec_sweep⟩ (by kernel_rfl) (fun n => 2 ≤ n ∧ n ≤ N) (fun n => ⟨[(4, .num .i64 n), (3, .ref 13 0 0 true), (0, .sl 2 (encPs l))], [(13, some (.arr 3 31 []))]⟩) (fun n => N - n) 2 id ⟨Nat.le_refl _, f1⟩ (by simp [SLe, SLe0, convTm, convHp, convB, conv, conv0, lkT, lkH, clean]) ?_
  rintro n ⟨n1, n2⟩
  have hN20 : N ≤ 20 := by
    rcases Nat.lt_or_ge l.length 2 with c | c
    · rw [f3 c]; omega
    · have := f2 c; omega
  have hw : IntKind.i64.wrap (((n : Nat) : Int) + 1) = ((n + 1 : Nat) : Int) := by rw [wr (by omega) (by omega)]; omega
  have hmt : SmL (l.take (n + 1)) := fun p hp => hm p (List.mem_of_mem_take hp)
  have hzt : (l.take (n + 1)).length ≤ 1000000 := by rw [List.length_take]; omega
  have fin : n = N → ∀ (b : Bool), True := fun _ _ => trivial
  by_cases c0 : n < l.length
  · have d1 : decide (((n : Nat) : Int) < (l.length : Int)) = true := by simpa using c0
    have hc := f4 n n1 n2 c0
    cases c2 : decide (n < N) with
    | true =>
      rw [c2] at hc
      simp only [V_seq, V_skip, V_block, V_region, V_cond, brW_true, W_nil, W_cons, effOp2, KN_seq, KN_block, KN_back, asB, effOp, effPure, effPick, effCall, giveUp, hasAll, pureV, pickV, binV, sliceV, lenV, ofC, strip, lkT, lkH, ISt.app, opI, gO, gB, allB, gval, wrapG, dstOK, setD, lendV, lendP, lent, lentP, idsV, idsL, lkHS, flat, clean, callArgs, callFn, allLent, Op.operands, Call.operands, List.append_toArray, Array.append_empty, Option.toArray_none, Option.toArray_some, reduceIte, reduceCtorEq, cond_true, Bool.or_false, Bool.not_true, Nat.reduceLT, Nat.reduceEqDiff, ne_eq, not_false_eq_true, beq_self_eq_true, true_and, and_true, and_self, implies_true, forall_const, List.map_cons, List.map_nil, List.nil_append, List.cons_append, List.append_nil, Option.map_some, Option.map_none, Option.bind_some, List.getElem?_cons_zero, List.getElem?_cons_succ, ex_clo, or_self, Bool.true_eq_false, tab23, tab34, hN, Int.toNat_natCast, isPs_enc, toPs_enc, lk_spec_sweep_spec_collinear, sp_spec_collinear, el, d1, hw, encPs_take, hmt, hzt, hc]
      repeat refine And.intro (by first | omega | (simp; done) | (simp; omega)) ?_
      first
        | exact ⟨n + 1, id, ⟨by omega, by have := of_decide_eq_true c2; omega⟩, by simp only []; have := of_decide_eq_true c2; omega, by simp [SLe, SLe0, convTm, convHp, convB, conv, conv0, lkT, lkH, clean]⟩
        | exact ⟨hmt, n + 1, id, ⟨by omega, by have := of_decide_eq_true c2; omega⟩, by simp only []; have := of_decide_eq_true c2; omega, by simp [SLe, SLe0, convTm, convHp, convB, conv, conv0, convL, lkT, lkH, clean]⟩
    | false =>
      have hnN : n = N := by have := of_decide_eq_false c2; omega
      rw [c2] at hc
      subst hnN
      have d2 : (((n : Nat) : Int) == (l.length : Int)) = false := by rw [beq_eq_false_iff_ne]; omega
      simp only [V_seq, V_skip, V_exit, V_block, V_region, V_cond, brW_false, W_nil, W_cons, effOp2, KN_seq, KXe_nil, KXe_seq, KXe_block, KXe_back, QE, asB, effOp, effPure, effPick, effNew, effBuildSlice, effFrz, frz, tmpsOf, effCall, giveUp, hasAll, skipE, pureV, pickV, binV, sliceV, lenV, ofC, strip, lkT, lkH, ISt.app, opI, gO, gB, allB, gval, wrapG, dstOK, setD, mentTm, mentHp, IV.ment, partsL, eltsI, lendV, lendP, lent, lentP, idsV, idsL, lkHS, flat, clean, callArgs, callFn, allLent, Ideal.Fin, Op.operands, Call.operands, List.append_toArray, Array.append_empty, Option.toArray_none, Option.toArray_some, reduceIte, reduceCtorEq, cond_true, Bool.or_false, Bool.not_true, Nat.reduceMul, Nat.reduceLT, Nat.reduceLeDiff, Nat.reduceEqDiff, Nat.reduceBEq, ne_eq, not_false_eq_true, beq_self_eq_true, true_and, and_true, and_self, implies_true, forall_const, List.map_cons, List.map_nil, List.nil_append, List.cons_append, List.append_nil, Option.map_some, Option.map_none, Option.bind_some, List.getElem?_cons_zero, List.getElem?_cons_succ, List.length_nil, ex_clo, or_self, Bool.true_eq_false, tab3, tab23, tab34, tab55, hN, Int.toNat_natCast, isPs_enc, toPs_enc, lk_spec_sweep_spec_collinear, sp_spec_collinear, el, d1, hw, encPs_take, hmt, hzt, hc, d2]
      refine ⟨⟨by omega, by omega⟩, ?_⟩
      refine V_loop (α := Nat) ⟨tabOK, mixed, gok_spec_sweep, hok_spec_sweep⟩ (by kernel_rfl) (fun i => i ≤ n) (fun i => ⟨[(6, .num .i64 i), (5, .ref 32 0 i true), (4, .num .i64 n), (3, .ref 13 0 0 true), (0, .sl 2 (encPs l))], [(32, some (.arr 1 3 (encN (List.range i)))), (13, some (.arr 3 31 []))]⟩) (fun i => n - i) 0 id (Nat.zero_le _) (by simp [SLe, SLe0, convTm, convHp, convB, conv, conv0, lkT, lkH, clean, encN, encI]) ?_
      intro i hi
      have er : (encN (List.range i)).length = i := by rw [len_encN, List.length_range]
      have hx : ∃ k ty es, IBlk.arr 1 3 (encN (List.range i)) = IBlk.arr k ty es := ⟨_, _, _, rfl⟩
      simp only [V_seq, V_region, V_cond, W_nil, W_cons, effOp2, KN_seq, asB, effOp, effPure, pureV, binV, strip, lkT, ISt.app, opI, gO, gB, allB, gval, wrapG, dstOK, setD, Op.operands, reduceIte, reduceCtorEq, Nat.reduceLT, Nat.reduceEqDiff, true_and, and_self, implies_true, List.nil_append, List.cons_append, hN]
      refine brW_some (fun h => ?_) (fun h => ?_)
      · have hi' : i < n := by simpa using h
        have hw := wr_succ hi' (by rw [maxLen_eq]; omega)
        have hen : encN (List.range (i + 1)) = (encN (List.range i)).take i ++ [IV.num .i64 ((i : Nat) : Int)] := by
          rw [List.range_succ, ← encN_app, List.take_of_length_le (by omega)]; rfl
        simp only [V_seq, V_skip, V_block, V_region, W_nil, W_cons, effOp2, KN_seq, KN_block, KN_back, effOp, effPure, effNew, effBuildSlice, effFrz, frz, tmpsOf, effAppend, effZeros, skipE, pureV, srcV, refId, binV, ofC, strip, lkT, lkH, ISt.app, opI, gO, gB, allB, gval, wrapG, dstOK, setD, mentTm, mentHp, IV.ment, partsL, eltsI, eltI, noId', Op.operands, reduceIte, reduceCtorEq, cond_true, Bool.or_false, Nat.reduceMul, Nat.reduceLT, Nat.reduceLeDiff, Nat.reduceEqDiff, Nat.reduceBEq, Nat.zero_add, ne_eq, not_false_eq_true, true_and, and_true, and_self, implies_true, List.nil_append, List.cons_append, List.append_nil, Option.some.injEq, List.length_cons, List.length_nil, List.take_succ_cons, List.take_nil, List.drop_zero, tab3, tab55, hN, er, hw]
        repeat refine And.intro (by first | omega | (simp; done) | (simp; omega)) ?_
        refine ⟨i + 1, fun x => if x = 32 then 41 else x, by simp only []; omega, by simp only []; omega, ?_⟩
        simp only [hen]
        simp [SLe, SLe0, convTm, convHp, convB, conv, conv0, lkT, lkH, clean]
        exact ⟨(List.take_of_length_le (by rw [List.length_append, List.length_take]; exact Nat.le_refl _)).symm, fun id a c d => by omega⟩
      · have hie : i = n := by simp at h; omega
        subst hie
        have w0 : IntKind.i64.wrap (((i : Nat) : Int) - 2) = ((i - 2 - 0 : Nat) : Int) := by rw [wr (by omega) (by omega)]; omega
        simp only [V_seq, V_exit, V_block, V_region, W_nil, W_cons, effOp2, KN_seq, KXe_nil, KXe_seq, KXe_block, KXe_back, QE, effOp, effPure, pureV, binV, ofC, strip, lkT, ISt.app, opI, gO, gB, allB, gval, wrapG, dstOK, setD, Ideal.Fin, Op.operands, reduceIte, reduceCtorEq, Nat.reduceLT, Nat.reduceEqDiff, true_and, and_self, implies_true, List.nil_append, List.cons_append, hN, w0]
        refine V_loop (α := Nat) ⟨tabOK, mixed, gok_spec_sweep, hok_spec_sweep⟩ (by kernel_rfl) (fun k => k ≤ i - 2) (fun k => ⟨[(7, .num .i64 ((i - 2 - k : Nat) : Int)), (5, .ref 32 0 (i + k) true), (4, .num .i64 i), (3, .ref 13 0 0 true), (0, .sl 2 (encPs l))], [(32, some (.arr 1 3 (encN (ring0 i k)))), (13, some (.arr 3 31 []))]⟩) (fun k => i - 2 - k) 0 id (Nat.zero_le _) (by simp [SLe, SLe0, convTm, convHp, convB, conv, conv0, lkT, lkH, clean, ring0]) ?_
        intro k hk2
        have er : (encN (ring0 i k)).length = i + k := by rw [len_encN, ring0_len]
        have hx : ∃ k' ty es, IBlk.arr 1 3 (encN (ring0 i k)) = IBlk.arr k' ty es := ⟨_, _, _, rfl⟩
        simp only [V_seq, V_region, V_cond, W_nil, W_cons, effOp2, KN_seq, asB, effOp, effPure, pureV, binV, ofC, strip, lkT, ISt.app, opI, gO, gB, allB, gval, wrapG, dstOK, setD, Op.operands, reduceIte, reduceCtorEq, Nat.reduceLT, Nat.reduceEqDiff, true_and, and_self, implies_true, List.nil_append, List.cons_append, hN]
        refine brW_some (fun h => ?_) (fun h => ?_)
        · have hk3 : k < i - 2 := by simp at h; omega
          have w1 : IntKind.i64.wrap (((i - 2 - k : Nat) : Int) - 1) = ((i - 2 - (k + 1) : Nat) : Int) := by rw [wr (by omega) (by omega)]; omega
          have hen : encN (ring0 i (k + 1)) = (encN (ring0 i k)).take (i + k) ++ [IV.num .i64 ((i - 2 - k : Nat) : Int)] := by
            rw [ring0_succ, ← encN_app, List.take_of_length_le (by omega)]; rfl
          simp only [V_seq, V_skip, V_block, V_region, W_nil, W_cons, effOp2, KN_seq, KN_block, KN_back, effOp, effPure, effNew, effBuildSlice, effFrz, frz, tmpsOf, effAppend, effZeros, skipE, pureV, srcV, refId, binV, ofC, strip, lkT, lkH, ISt.app, opI, gO, gB, allB, gval, wrapG, dstOK, setD, mentTm, mentHp, IV.ment, partsL, eltsI, eltI, noId', Op.operands, reduceIte, reduceCtorEq, cond_true, Bool.or_false, Nat.reduceMul, Nat.reduceLT, Nat.reduceLeDiff, Nat.reduceEqDiff, Nat.reduceBEq, Nat.zero_add, ne_eq, not_false_eq_true, true_and, and_true, and_self, implies_true, List.nil_append, List.cons_append, List.append_nil, Option.some.injEq, List.length_cons, List.length_nil, List.take_succ_cons, List.take_nil, List.drop_zero, tab3, tab55, hN, er, w1]
          repeat refine And.intro (by first | omega | (simp; done) | (simp; omega)) ?_
          refine ⟨k + 1, fun x => if x = 32 then 51 else x, by simp only []; omega, by simp only []; omega, ?_⟩
          simp only [hen]
          simp [SLe, SLe0, convTm, convHp, convB, conv, conv0, lkT, lkH, clean]
          exact ⟨⟨by omega, (List.take_of_length_le (by rw [List.length_append, List.length_take]; exact Nat.le_refl _)).symm⟩, fun id a c d => by omega⟩
        · have hke : k = i - 2 := by simp at h; omega
          subst hke
          have hz0 := swp_zero l i
          have hr0 : (ring0 i (i - 2)).length = i + (i - 2) := ring0_len _ _
          have tk0 : (encN (ring0 i (i - 2))).take (i + (i - 2)) = encN (ring0 i (i - 2)) := List.take_of_length_le (by omega)
          simp only [V_seq, V_exit, V_block, KN_seq, KXe_nil, KXe_seq, KXe_block, KXe_back, QE, Ideal.Fin, reduceIte]
          refine V_loop (α := Nat) ⟨tabOK, mixed, gok_spec_sweep, hok_spec_sweep⟩ (by kernel_rfl) (fun k => k = 0 ∨ i + k ≤ l.length) (fun k => ⟨[(5, .sl 1 (encN (swp l i k).2)), (4, .num .i64 ((i + k : Nat) : Int)), (3, .ref 13 0 (swp l i k).1.length true), (0, .sl 2 (encPs l))], [(13, some (.arr 3 31 (encTs (swp l i k).1)))]⟩) (fun k => l.length - k) 0 id (.inl rfl) (by simp [SLe, SLe0, convTm, convHp, convB, conv, conv0, lkT, lkH, clean, hz0, encTs]; exact ⟨_, _, ⟨rfl, rfl⟩, by rw [len_encN]; omega, tk0.symm⟩) ?_
          intro k hk4
          obtain ⟨hb1, hb2, hb3⟩ := swp_bd (l := l) f1 k
          have hik : i + k ≤ 20 := by rcases hk4 with h | h <;> omega
          have hpw := pow_20 (n := i + k) hik
          have hS : swp l i (k + 1) = ((swp l i k).1 ++ triL l (swp l i k).2 (i + k) (swp l i k).2.length, nxtL l (swp l i k).2 (i + k) (swp l i k).2.length) := rfl
          obtain ⟨o, ho⟩ : ∃ o, (swp l i k).1 = o := ⟨_, rfl⟩
          obtain ⟨r, hr⟩ : ∃ r, (swp l i k).2 = r := ⟨_, rfl⟩
          rw [ho, hr] at hS
          rw [hr] at hb1 hb3
          rw [ho] at hb2
          have hfin : l.length ≤ i + k → sweepP l = o := fun e => by rw [hv, show l.length - i = k by rcases hk4 with h | h <;> omega, ho]
          simp only [ho, hr]
          have eo := len_encTs o
          have er := len_encN r
          have hx7 : ∃ k' ty es, IBlk.arr 3 31 (encTs o) = IBlk.arr k' ty es := ⟨_, _, _, rfl⟩
          simp only [V_seq, V_region, V_cond, W_nil, W_cons, effOp2, KN_seq, asB, effOp, effPure, pureV, binV, lenV, strip, lkT, ISt.app, opI, gO, gB, allB, gval, wrapG, dstOK, setD, Op.operands, Call.operands, List.append_toArray, reduceIte, reduceCtorEq, Nat.reduceLT, Nat.reduceEqDiff, ne_eq, not_false_eq_true, true_and, and_self, implies_true, List.nil_append, List.cons_append, tab23, hN, el]
          refine brW_some (fun h => ?_) (fun h => ?_)
          · have hlt : i + k < l.length := by simp at h; omega
            have hwn : IntKind.i64.wrap (((i + k : Nat) : Int) + 1) = ((i + (k + 1) : Nat) : Int) := by rw [wr (by omega) (by omega)]; omega
            have gn := getD_encPs hlt
            have sn := hm.at (i + k)
            have hk5 : i + (k + 1) ≤ l.length := by omega
            obtain ⟨q, hq⟩ : ∃ q, i + k = q := ⟨_, rfl⟩
            rw [hq] at hlt hwn gn sn hS hb3 ⊢
            have pn : pAt l q = pA l q := rfl
            rw [pn] at gn sn
            simp only [V_seq, V_skip, V_block, V_region, W_nil, W_cons, effOp2, KN_seq, effOp, effPure, effNew, effBuildSlice, effFrz, frz, tmpsOf, skipE, pureV, ofC, strip, lkT, ISt.app, opI, gO, gB, allB, gval, wrapG, dstOK, setD, mentTm, mentHp, IV.ment, partsL, eltsI, Op.operands, reduceIte, reduceCtorEq, cond_true, Bool.or_false, Nat.reduceMul, Nat.reduceLT, Nat.reduceLeDiff, Nat.reduceEqDiff, Nat.reduceBEq, ne_eq, not_false_eq_true, true_and, and_self, implies_true, List.nil_append, List.cons_append, List.append_nil, List.length_nil, tab4, tab67, hN]
            refine V_loop (α := Nat) ⟨tabOK, mixed, gok_spec_sweep, hok_spec_sweep⟩ (by kernel_rfl) (fun j => j ≤ r.length) (fun j => ⟨[(9, .num .i64 j), (8, .ref 58 0 j true), (5, .sl 1 (encN r)), (4, .num .i64 q), (3, .ref 13 0 (o ++ triL l r q j).length true), (0, .sl 2 (encPs l))], [(58, some (.arr 1 4 (encBl ((List.range j).map (seenB l r q))))), (13, some (.arr 3 31 (encTs (o ++ triL l r q j))))]⟩) (fun j => r.length - j) 0 id (Nat.zero_le _) (by simp [SLe, SLe0, convTm, convHp, convB, conv, conv0, lkT, lkH, clean, triL, encBl]) ?_
            intro j hj
            have et := len_encTs (o ++ triL l r q j)
            have esn : (encBl ((List.range j).map (seenB l r q))).length = j := by rw [len_encBl, seen_take]
            have hx58 : ∃ k' ty es, IBlk.arr 1 4 (encBl ((List.range j).map (seenB l r q))) = IBlk.arr k' ty es := ⟨_, _, _, rfl⟩
            have hx17 : ∃ k' ty es, IBlk.arr 3 31 (encTs (o ++ triL l r q j)) = IBlk.arr k' ty es := ⟨_, _, _, rfl⟩
            have htl := triL_len l r q j
            simp only [V_seq, V_region, V_cond, W_nil, W_cons, effOp2, KN_seq, asB, effOp, effPure, pureV, binV, lenV, strip, lkT, ISt.app, opI, gO, gB, allB, gval, wrapG, dstOK, setD, Op.operands, Call.operands, List.append_toArray, reduceIte, reduceCtorEq, Nat.reduceLT, Nat.reduceEqDiff, ne_eq, not_false_eq_true, true_and, and_self, implies_true, List.nil_append, List.cons_append, tab55, hN, er]
            refine brW_some (fun h => ?_) (fun h => ?_)
            · have hj' : j < r.length := by simpa using h
              have hwj := wr_succ hj' (by rw [maxLen_eq]; omega)
              have hmj : (j + 1) % r.length < r.length := Nat.mod_lt _ (by omega)
              have t1 : ((j + 1 : Nat) : Int).tmod (r.length : Int) = (((j + 1) % r.length : Nat) : Int) := by rw [Int.tmod_eq_emod_of_nonneg (by omega)]; simp
              have d0 : ((r.length : Int) == 0) = false := by rw [beq_eq_false_iff_ne]; omega
              have k1 := getD_encN hj'
              have k2 := getD_encN hmj
              have m1 : nAt r j < l.length := by
                have : nAt r j ∈ r := by rw [nAt, List.getD, List.getElem?_eq_getElem hj']; exact List.getElem_mem _
                have := hb3 _ this; omega
              have m2 : nAt r ((j + 1) % r.length) < l.length := by
                have : nAt r ((j + 1) % r.length) ∈ r := by rw [nAt, List.getD, List.getElem?_eq_getElem hmj]; exact List.getElem_mem _
                have := hb3 _ this; omega
              have k3 := getD_encPs m1
              have k4 := getD_encPs m2
              have s3 := hm.at (nAt r j)
              have s4 := hm.at (nAt r ((j + 1) % r.length))
              have hse : seenB l r q j = decide (turn (pAt l (nAt r j)) (pAt l (nAt r ((j + 1) % r.length))) (pA l q) < 0) := rfl
              have htr : triL l r q (j + 1) = triL l r q j ++ if seenB l r q j then [(((nAt r ((j + 1) % r.length) : Nat) : Int), ((nAt r j : Nat) : Int), ((q : Nat) : Int))] else [] := rfl
              have hsb : encBl ((List.range (j + 1)).map (seenB l r q)) = (encBl ((List.range j).map (seenB l r q))).take j ++ [IV.bool (seenB l r q j)] := by
                rw [List.range_succ, List.map_append, ← encBl_app, List.take_of_length_le (by omega)]; rfl
              generalize (j + 1) % r.length = jj at *
              generalize nAt r j = a at *
              generalize nAt r jj = b at *
              generalize pAt l a = A at *
              generalize pAt l b = B at *
              generalize pA l q = Q at *
              cases c1 : decide (turn A B Q < 0) with
              | false =>
                rw [c1] at hse
                rw [hse] at hsb htr
                rw [if_neg (by decide), List.append_nil] at htr
                simp only [V_seq, V_skip, V_block, V_region, V_draw, V_cond, brW_false, drawW, WS_nil, pairsOf, W_nil, W_cons, effOp2, effOp3, WI_nil, WI_cons, KN_seq, KN_block, KN_back, dynOK, indB, farB, freshB, freshK, freshK1, heapy, asB, effOp, effPure, effNew, effBuildSlice, effFrz, frz, tmpsOf, effAppend, effZeros, effCall, giveUp, hasAll, skipE, pureV, srcV, refId, binV, partV, eltV, loadV, iaddrV, lenV, ofC, strip, lkT, lkH, ISt.app, opI, gO, gB, allB, gval, wrapG, dstOK, setD, mentTm, mentHp, IV.ment, IV.mentL, partsL, eltsI, eltI, noId', lendV, lendP, lent, lentP, idsV, idsL, lkHS, flat, clean, callArgs, callFn, allLent, Op.operands, Call.operands, List.append_toArray, reduceIte, reduceCtorEq, cond_true, cond_false, Bool.or_false, Bool.and_true, Bool.and_eq_true, Bool.not_true, Bool.not_false, Nat.reduceAdd, Nat.reduceMul, Nat.reduceLT, Nat.reduceLeDiff, Nat.reduceEqDiff, Nat.reduceBEq, Nat.zero_add, ne_eq, not_false_eq_true, true_and, and_true, and_false, and_self, implies_true, forall_const, List.map_cons, List.map_nil, List.nil_append, List.cons_append, List.append_nil, Option.some.injEq, List.getD_cons_zero, List.getD_cons_succ, List.length_cons, List.length_nil, List.take_succ_cons, List.take_zero, List.take_nil, List.drop_zero, ex_clo, or_self, tab3, tab4, tab23, tab34, tab55, tab67, hN, pe, Int.toNat_natCast, lk_spec_sweep_spec_cross, sp_spec_cross, el, er, esn, hwj, t1, k1, k2, k3, k4, s3, s4, sn, gn, c1]
                repeat refine And.intro (by first | omega | (simp; done) | (simp; omega)) ?_
                refine ⟨j + 1, fun x => if x = 58 then 94 else x, by simp only []; omega, by simp only []; omega, ?_⟩
                simp only [htr, hsb]
                simp [SLe, SLe0, convTm, convHp, convB, conv, conv0, lkT, lkH, clean]
                exact ⟨(List.take_of_length_le (by rw [List.length_append, List.length_take]; exact Nat.le_refl _)).symm, fun id a c d => by omega⟩
              | true =>
                rw [c1] at hse
                rw [hse] at hsb htr
                rw [if_pos rfl] at htr
                have hen : encTs (o ++ triL l r q (j + 1)) = (encTs (o ++ triL l r q j)).take (o ++ triL l r q j).length ++ [IV.agg [.num .i64 ((b : Nat) : Int), .num .i64 ((a : Nat) : Int), .num .i64 ((q : Nat) : Int)]] := by
                  rw [htr, ← List.append_assoc, ← encTs_app, take_encTs]; rfl
                have hln : (o ++ triL l r q (j + 1)).length = (o ++ triL l r q j).length + 1 := by rw [htr, ← List.append_assoc, List.length_append]; rfl
                have hlo : (o ++ triL l r q j).length ≤ 2000000 := by rw [List.length_append]; omega
                simp only [V_seq, V_skip, V_block, V_region, V_draw, V_cond, brW_true, drawW, WS_nil, pairsOf, W_nil, W_cons, effOp2, effOp3, WI_nil, WI_cons, KN_seq, KN_block, KN_back, dynOK, indB, farB, freshB, freshK, freshK1, heapy, asB, effOp, effPure, effNew, effBuildSlice, effFrz, frz, tmpsOf, effAppend, effZeros, effCall, giveUp, hasAll, skipE, pureV, srcV, refId, binV, partV, eltV, loadV, iaddrV, lenV, over, solid, buildL, IV.cells, ofC, strip, lkT, lkH, ISt.app, opI, gO, gB, allB, gval, wrapG, dstOK, setD, mentTm, mentHp, IV.ment, IV.mentL, partsL, eltsI, eltI, oneI, noId', lendV, lendP, lent, lentP, idsV, idsL, lkHS, flat, clean, callArgs, callFn, allLent, Op.operands, Call.operands, List.append_toArray, reduceIte, reduceCtorEq, cond_true, cond_false, Bool.or_false, Bool.and_true, Bool.and_eq_true, Bool.not_true, Bool.not_false, Nat.reduceAdd, Nat.reduceMul, Nat.reduceLT, Nat.reduceLeDiff, Nat.reduceEqDiff, Nat.reduceBEq, Nat.zero_add, ne_eq, not_false_eq_true, true_and, and_true, false_and, and_false, and_self, implies_true, forall_const, List.map_cons, List.map_nil, List.nil_append, List.cons_append, List.append_nil, List.all_cons, List.all_nil, Option.some.injEq, List.getD_cons_zero, List.getD_cons_succ, List.length_cons, List.length_nil, List.take_succ_cons, List.take_zero, List.take_nil, List.drop_succ_cons, List.drop_zero, List.drop_nil, ex_clo, or_self, tab3, tab4, tab23, tab25, tab31, tab34, tab55, tab67, hN, pe, Int.toNat_natCast, lk_spec_sweep_spec_cross, sp_spec_cross, el, er, et, esn, hwj, t1, k1, k2, k3, k4, s3, s4, sn, gn, c1]
                repeat refine And.intro (by first | omega | (simp; done) | (simp; omega)) ?_
                refine ⟨j + 1, fun x => if x = 58 then 94 else if x = 13 then 102 else x, by simp only []; omega, by simp only []; omega, ?_⟩
                simp only [hen, hln, hsb]
                simp [SLe, SLe0, convTm, convHp, convB, conv, conv0, lkT, lkH, clean]
                refine ⟨⟨(List.take_of_length_le (by rw [List.length_append, List.length_take]; exact Nat.le_refl _)).symm, (List.take_of_length_le (by rw [List.length_append, List.length_take]; exact Nat.le_refl _)).symm⟩, fun id a c => ?_⟩
                rw [if_neg (by omega), if_neg (by omega)]
            · have hje : j = r.length := by simp at h; omega
              subst hje
              have tks : (encBl ((List.range r.length).map (seenB l r q))).take r.length = encBl ((List.range r.length).map (seenB l r q)) := List.take_of_length_le (by omega)
              have hadd := addR_nxt (l := l) (r := r) (q := q) rfl r.length (Nat.le_refl _)
              have hSl : ((List.range r.length).map (seenB l r q)).length = r.length := seen_take _ _ _ _
              obtain ⟨R, hR⟩ : ∃ R, r.map (fun n => ((n : Nat) : Int)) = R := ⟨_, rfl⟩
              have hRe : encN r = encI R := by rw [encN, hR]
              have hRl : R.length = r.length := by rw [← hR, List.length_map]
              rw [hR] at hadd
              have hres : encI (addR R ((List.range r.length).map (seenB l r q)) (q : Int) r.length) = encN (nxtL l r q r.length) := by rw [hadd]; rfl
              have hrz : r.length ≤ 2000000 := by omega
              simp only [V_seq, V_ret, V_exit, V_region, W_nil, W_cons, effOp2, KN_seq, KN_block, KN_back, KXr_nil, KXe_nil, KXe_seq, KXe_block, KXe_back, QE, effOp, effPure, effCall, giveUp, hasAll, Option.isSome_some, pureV, binV, ofC, strip, lkT, lkH, ISt.app, opI, gO, gB, allB, gval, wrapG, dstOK, setD, lendV, lendP, lent, lentP, idsV, idsL, lkHS, flat, clean, callArgs, callFn, allLent, Gives, Ideal.Fin, conv, conv0, Op.operands, reduceIte, reduceCtorEq, cond_false, Bool.or_false, Bool.not_true, Nat.reduceLT, Nat.reduceEqDiff, Nat.zero_add, ne_eq, true_and, and_true, and_self, implies_true, forall_const, List.map_cons, List.map_nil, List.nil_append, List.cons_append, List.append_nil, Option.some.injEq, List.drop_zero, ex_clo, or_true, Bool.false_eq_true, hN, isIs_enc, toIs_enc, isBls_enc, toBls_enc, lk_spec_sweep_spec_addToRing, sp_spec_addToRing, hwn, esn, hRe, tks, hSl, hRl, hres, hrz]
              refine ⟨Nat.le_refl _, k + 1, id, .inr hk5, by simp only []; omega, ?_⟩
              simp only [hS]
              exact by simp [SLe, SLe0, convTm, convHp, convB, conv, conv0, lkT, lkH, clean]
          · have hie : l.length ≤ i + k := by simp at h; omega
            have hv2 := hfin hie
            have etk := take_encTs o
            simp only [V_seq, V_ret, V_exit, V_region, W_nil, W_cons, effOp2, KN_seq, KXr_nil, KXe_nil, KXe_seq, KXe_block, KXe_back, QE, effOp, effPure, pureV, strip, lkT, lkH, ISt.app, opI, gO, gB, allB, gval, wrapG, dstOK, setD, Gives, Ideal.Fin, conv, conv0, Op.operands, reduceIte, reduceCtorEq, Nat.reduceLT, Nat.reduceEqDiff, Nat.zero_add, ne_eq, true_and, and_self, implies_true, List.nil_append, List.cons_append, Option.some.injEq, List.drop_zero, hN, hv2]
            exact ⟨_, _, rfl, by omega, etk.symm, by simp⟩
  · have d1 : decide (((n : Nat) : Int) < (l.length : Int)) = false := by simpa using c0
    rcases Nat.lt_or_ge l.length 2 with c | c
    · have hN2 := f3 c
      have hnN : n = N := by omega
      subst hnN
      have d2 : (((n : Nat) : Int) == (l.length : Int)) = false := by rw [beq_eq_false_iff_ne]; omega
      simp only [V_seq, V_skip, V_exit, V_block, V_region, V_cond, brW_false, W_nil, W_cons, effOp2, KN_seq, KXe_nil, KXe_seq, KXe_block, KXe_back, QE, asB, effOp, effPure, effPick, effNew, effBuildSlice, effFrz, frz, tmpsOf, effCall, giveUp, hasAll, skipE, pureV, pickV, binV, sliceV, lenV, ofC, strip, lkT, lkH, ISt.app, opI, gO, gB, allB, gval, wrapG, dstOK, setD, mentTm, mentHp, IV.ment, partsL, eltsI, lendV, lendP, lent, lentP, idsV, idsL, lkHS, flat, clean, callArgs, callFn, allLent, Ideal.Fin, Op.operands, Call.operands, List.append_toArray, Array.append_empty, Option.toArray_none, Option.toArray_some, reduceIte, reduceCtorEq, cond_true, cond_false, Bool.or_false, Bool.or_true, Bool.not_false, Nat.reduceMul, Nat.reduceLT, Nat.reduceLeDiff, Nat.reduceEqDiff, Nat.reduceBEq, ne_eq, not_false_eq_true, true_and, and_true, false_and, and_false, and_self, false_implies, implies_true, List.map_cons, List.map_nil, List.nil_append, List.cons_append, List.append_nil, Option.map_some, Option.map_none, Option.bind_some, List.getElem?_cons_zero, List.getElem?_cons_succ, List.length_nil, ex_clo, bft, or_self, Bool.false_eq_true, tab3, tab23, tab34, tab55, hN, lk_spec_sweep_spec_collinear, sp_spec_collinear, el, d1, d2]
      refine V_loop (α := Nat) ⟨tabOK, mixed, gok_spec_sweep, hok_spec_sweep⟩ (by kernel_rfl) (fun i => i ≤ n) (fun i => ⟨[(6, .num .i64 i), (5, .ref 32 0 i true), (4, .num .i64 n), (3, .ref 13 0 0 true), (0, .sl 2 (encPs l))], [(32, some (.arr 1 3 (encN (List.range i)))), (13, some (.arr 3 31 []))]⟩) (fun i => n - i) 0 id (Nat.zero_le _) (by simp [SLe, SLe0, convTm, convHp, convB, conv, conv0, lkT, lkH, clean, encN, encI]) ?_
      intro i hi
      have er : (encN (List.range i)).length = i := by rw [len_encN, List.length_range]
      have hx : ∃ k ty es, IBlk.arr 1 3 (encN (List.range i)) = IBlk.arr k ty es := ⟨_, _, _, rfl⟩
      simp only [V_seq, V_region, V_cond, W_nil, W_cons, effOp2, KN_seq, asB, effOp, effPure, pureV, binV, strip, lkT, ISt.app, opI, gO, gB, allB, gval, wrapG, dstOK, setD, Op.operands, reduceIte, reduceCtorEq, Nat.reduceLT, Nat.reduceEqDiff, true_and, and_self, implies_true, List.nil_append, List.cons_append, hN]
      refine brW_some (fun h => ?_) (fun h => ?_)
      · have hi' : i < n := by simpa using h
        have hw := wr_succ hi' (by rw [maxLen_eq]; omega)
        have hen : encN (List.range (i + 1)) = (encN (List.range i)).take i ++ [IV.num .i64 ((i : Nat) : Int)] := by
          rw [List.range_succ, ← encN_app, List.take_of_length_le (by omega)]; rfl
        simp only [V_seq, V_skip, V_block, V_region, W_nil, W_cons, effOp2, KN_seq, KN_block, KN_back, effOp, effPure, effNew, effBuildSlice, effFrz, frz, tmpsOf, effAppend, effZeros, skipE, pureV, srcV, refId, binV, ofC, strip, lkT, lkH, ISt.app, opI, gO, gB, allB, gval, wrapG, dstOK, setD, mentTm, mentHp, IV.ment, partsL, eltsI, eltI, noId', Op.operands, reduceIte, reduceCtorEq, cond_true, Bool.or_false, Nat.reduceMul, Nat.reduceLT, Nat.reduceLeDiff, Nat.reduceEqDiff, Nat.reduceBEq, Nat.zero_add, ne_eq, not_false_eq_true, true_and, and_true, and_self, implies_true, List.nil_append, List.cons_append, List.append_nil, Option.some.injEq, List.length_cons, List.length_nil, List.take_succ_cons, List.take_nil, List.drop_zero, tab3, tab55, hN, er, hw]
        repeat refine And.intro (by first | omega | (simp; done) | (simp; omega)) ?_
        refine ⟨i + 1, fun x => if x = 32 then 41 else x, by simp only []; omega, by simp only []; omega, ?_⟩
        simp only [hen]
        simp [SLe, SLe0, convTm, convHp, convB, conv, conv0, lkT, lkH, clean]
        exact ⟨(List.take_of_length_le (by rw [List.length_append, List.length_take]; exact Nat.le_refl _)).symm, fun id a c d => by omega⟩
      · have hie : i = n := by simp at h; omega
        subst hie
        have w0 : IntKind.i64.wrap (((i : Nat) : Int) - 2) = ((i - 2 - 0 : Nat) : Int) := by rw [wr (by omega) (by omega)]; omega
        simp only [V_seq, V_exit, V_block, V_region, W_nil, W_cons, effOp2, KN_seq, KXe_nil, KXe_seq, KXe_block, KXe_back, QE, effOp, effPure, pureV, binV, ofC, strip, lkT, ISt.app, opI, gO, gB, allB, gval, wrapG, dstOK, setD, Ideal.Fin, Op.operands, reduceIte, reduceCtorEq, Nat.reduceLT, Nat.reduceEqDiff, true_and, and_self, implies_true, List.nil_append, List.cons_append, hN, w0]
        refine V_loop (α := Nat) ⟨tabOK, mixed, gok_spec_sweep, hok_spec_sweep⟩ (by kernel_rfl) (fun k => k ≤ i - 2) (fun k => ⟨[(7, .num .i64 ((i - 2 - k : Nat) : Int)), (5, .ref 32 0 (i + k) true), (4, .num .i64 i), (3, .ref 13 0 0 true), (0, .sl 2 (encPs l))], [(32, some (.arr 1 3 (encN (ring0 i k)))), (13, some (.arr 3 31 []))]⟩) (fun k => i - 2 - k) 0 id (Nat.zero_le _) (by simp [SLe, SLe0, convTm, convHp, convB, conv, conv0, lkT, lkH, clean, ring0]) ?_
        intro k hk2
        have er : (encN (ring0 i k)).length = i + k := by rw [len_encN, ring0_len]
        have hx : ∃ k' ty es, IBlk.arr 1 3 (encN (ring0 i k)) = IBlk.arr k' ty es := ⟨_, _, _, rfl⟩
        simp only [V_seq, V_region, V_cond, W_nil, W_cons, effOp2, KN_seq, asB, effOp, effPure, pureV, binV, ofC, strip, lkT, ISt.app, opI, gO, gB, allB, gval, wrapG, dstOK, setD, Op.operands, reduceIte, reduceCtorEq, Nat.reduceLT, Nat.reduceEqDiff, true_and, and_self, implies_true, List.nil_append, List.cons_append, hN]
        refine brW_some (fun h => ?_) (fun h => ?_)
        · have hk3 : k < i - 2 := by simp at h; omega
          have w1 : IntKind.i64.wrap (((i - 2 - k : Nat) : Int) - 1) = ((i - 2 - (k + 1) : Nat) : Int) := by rw [wr (by omega) (by omega)]; omega
          have hen : encN (ring0 i (k + 1)) = (encN (ring0 i k)).take (i + k) ++ [IV.num .i64 ((i - 2 - k : Nat) : Int)] := by
            rw [ring0_succ, ← encN_app, List.take_of_length_le (by omega)]; rfl
          simp only [V_seq, V_skip, V_block, V_region, W_nil, W_cons, effOp2, KN_seq, KN_block, KN_back, effOp, effPure, effNew, effBuildSlice, effFrz, frz, tmpsOf, effAppend, effZeros, skipE, pureV, srcV, refId, binV, ofC, strip, lkT, lkH, ISt.app, opI, gO, gB, allB, gval, wrapG, dstOK, setD, mentTm, mentHp, IV.ment, partsL, eltsI, eltI, noId', Op.operands, reduceIte, reduceCtorEq, cond_true, Bool.or_false, Nat.reduceMul, Nat.reduceLT, Nat.reduceLeDiff, Nat.reduceEqDiff, Nat.reduceBEq, Nat.zero_add, ne_eq, not_false_eq_true, true_and, and_true, and_self, implies_true, List.nil_append, List.cons_append, List.append_nil, Option.some.injEq, List.length_cons, List.length_nil, List.take_succ_cons, List.take_nil, List.drop_zero, tab3, tab55, hN, er, w1]
          repeat refine And.intro (by first | omega | (simp; done) | (simp; omega)) ?_
          refine ⟨k + 1, fun x => if x = 32 then 51 else x, by simp only []; omega, by simp only []; omega, ?_⟩
          simp only [hen]
          simp [SLe, SLe0, convTm, convHp, convB, conv, conv0, lkT, lkH, clean]
          exact ⟨⟨by omega, (List.take_of_length_le (by rw [List.length_append, List.length_take]; exact Nat.le_refl _)).symm⟩, fun id a c d => by omega⟩
        · have hke : k = i - 2 := by simp at h; omega
          subst hke
          have hz0 := swp_zero l i
          have hr0 : (ring0 i (i - 2)).length = i + (i - 2) := ring0_len _ _
          have tk0 : (encN (ring0 i (i - 2))).take (i + (i - 2)) = encN (ring0 i (i - 2)) := List.take_of_length_le (by omega)
          simp only [V_seq, V_exit, V_block, KN_seq, KXe_nil, KXe_seq, KXe_block, KXe_back, QE, Ideal.Fin, reduceIte]
          refine V_loop (α := Nat) ⟨tabOK, mixed, gok_spec_sweep, hok_spec_sweep⟩ (by kernel_rfl) (fun k => k = 0 ∨ i + k ≤ l.length) (fun k => ⟨[(5, .sl 1 (encN (swp l i k).2)), (4, .num .i64 ((i + k : Nat) : Int)), (3, .ref 13 0 (swp l i k).1.length true), (0, .sl 2 (encPs l))], [(13, some (.arr 3 31 (encTs (swp l i k).1)))]⟩) (fun k => l.length - k) 0 id (.inl rfl) (by simp [SLe, SLe0, convTm, convHp, convB, conv, conv0, lkT, lkH, clean, hz0, encTs]; exact ⟨_, _, ⟨rfl, rfl⟩, by rw [len_encN]; omega, tk0.symm⟩) ?_
          intro k hk4
          obtain ⟨hb1, hb2, hb3⟩ := swp_bd (l := l) f1 k
          have hik : i + k ≤ 20 := by rcases hk4 with h | h <;> omega
          have hpw := pow_20 (n := i + k) hik
          have hS : swp l i (k + 1) = ((swp l i k).1 ++ triL l (swp l i k).2 (i + k) (swp l i k).2.length, nxtL l (swp l i k).2 (i + k) (swp l i k).2.length) := rfl
          obtain ⟨o, ho⟩ : ∃ o, (swp l i k).1 = o := ⟨_, rfl⟩
          obtain ⟨r, hr⟩ : ∃ r, (swp l i k).2 = r := ⟨_, rfl⟩
          rw [ho, hr] at hS
          rw [hr] at hb1 hb3
          rw [ho] at hb2
          have hfin : l.length ≤ i + k → sweepP l = o := fun e => by rw [hv, show l.length - i = k by rcases hk4 with h | h <;> omega, ho]
          simp only [ho, hr]
          have eo := len_encTs o
          have er := len_encN r
          have hx7 : ∃ k' ty es, IBlk.arr 3 31 (encTs o) = IBlk.arr k' ty es := ⟨_, _, _, rfl⟩
          simp only [V_seq, V_region, V_cond, W_nil, W_cons, effOp2, KN_seq, asB, effOp, effPure, pureV, binV, lenV, strip, lkT, ISt.app, opI, gO, gB, allB, gval, wrapG, dstOK, setD, Op.operands, Call.operands, List.append_toArray, reduceIte, reduceCtorEq, Nat.reduceLT, Nat.reduceEqDiff, ne_eq, not_false_eq_true, true_and, and_self, implies_true, List.nil_append, List.cons_append, tab23, hN, el]
          refine brW_some (fun h => ?_) (fun h => ?_)
          · have hlt : i + k < l.length := by simp at h; omega
            have hwn : IntKind.i64.wrap (((i + k : Nat) : Int) + 1) = ((i + (k + 1) : Nat) : Int) := by rw [wr (by omega) (by omega)]; omega
            have gn := getD_encPs hlt
            have sn := hm.at (i + k)
            have hk5 : i + (k + 1) ≤ l.length := by omega
            obtain ⟨q, hq⟩ : ∃ q, i + k = q := ⟨_, rfl⟩
            rw [hq] at hlt hwn gn sn hS hb3 ⊢
            have pn : pAt l q = pA l q := rfl
            rw [pn] at gn sn
            simp only [V_seq, V_skip, V_block, V_region, W_nil, W_cons, effOp2, KN_seq, effOp, effPure, effNew, effBuildSlice, effFrz, frz, tmpsOf, skipE, pureV, ofC, strip, lkT, ISt.app, opI, gO, gB, allB, gval, wrapG, dstOK, setD, mentTm, mentHp, IV.ment, partsL, eltsI, Op.operands, reduceIte, reduceCtorEq, cond_true, Bool.or_false, Nat.reduceMul, Nat.reduceLT, Nat.reduceLeDiff, Nat.reduceEqDiff, Nat.reduceBEq, ne_eq, not_false_eq_true, true_and, and_self, implies_true, List.nil_append, List.cons_append, List.append_nil, List.length_nil, tab4, tab67, hN]
            refine V_loop (α := Nat) ⟨tabOK, mixed, gok_spec_sweep, hok_spec_sweep⟩ (by kernel_rfl) (fun j => j ≤ r.length) (fun j => ⟨[(9, .num .i64 j), (8, .ref 58 0 j true), (5, .sl 1 (encN r)), (4, .num .i64 q), (3, .ref 13 0 (o ++ triL l r q j).length true), (0, .sl 2 (encPs l))], [(58, some (.arr 1 4 (encBl ((List.range j).map (seenB l r q))))), (13, some (.arr 3 31 (encTs (o ++ triL l r q j))))]⟩) (fun j => r.length - j) 0 id (Nat.zero_le _) (by simp [SLe, SLe0, convTm, convHp, convB, conv, conv0, lkT, lkH, clean, triL, encBl]) ?_
            intro j hj
            have et := len_encTs (o ++ triL l r q j)
            have esn : (encBl ((List.range j).map (seenB l r q))).length = j := by rw [len_encBl, seen_take]
            have hx58 : ∃ k' ty es, IBlk.arr 1 4 (encBl ((List.range j).map (seenB l r q))) = IBlk.arr k' ty es := ⟨_, _, _, rfl⟩
            have hx17 : ∃ k' ty es, IBlk.arr 3 31 (encTs (o ++ triL l r q j)) = IBlk.arr k' ty es := ⟨_, _, _, rfl⟩
            have htl := triL_len l r q j
            simp only [V_seq, V_region, V_cond, W_nil, W_cons, effOp2, KN_seq, asB, effOp, effPure, pureV, binV, lenV, strip, lkT, ISt.app, opI, gO, gB, allB, gval, wrapG, dstOK, setD, Op.operands, Call.operands, List.append_toArray, reduceIte, reduceCtorEq, Nat.reduceLT, Nat.reduceEqDiff, ne_eq, not_false_eq_true, true_and, and_self, implies_true, List.nil_append, List.cons_append, tab55, hN, er]
            refine brW_some (fun h => ?_) (fun h => ?_)
            · have hj' : j < r.length := by simpa using h
              have hwj := wr_succ hj' (by rw [maxLen_eq]; omega)
              have hmj : (j + 1) % r.length < r.length := Nat.mod_lt _ (by omega)
              have t1 : ((j + 1 : Nat) : Int).tmod (r.length : Int) = (((j + 1) % r.length : Nat) : Int) := by rw [Int.tmod_eq_emod_of_nonneg (by omega)]; simp
              have d0 : ((r.length : Int) == 0) = false := by rw [beq_eq_false_iff_ne]; omega
              have k1 := getD_encN hj'
              have k2 := getD_encN hmj
              have m1 : nAt r j < l.length := by
                have : nAt r j ∈ r := by rw [nAt, List.getD, List.getElem?_eq_getElem hj']; exact List.getElem_mem _
                have := hb3 _ this; omega
              have m2 : nAt r ((j + 1) % r.length) < l.length := by
                have : nAt r ((j + 1) % r.length) ∈ r := by rw [nAt, List.getD, List.getElem?_eq_getElem hmj]; exact List.getElem_mem _
                have := hb3 _ this; omega
              have k3 := getD_encPs m1
              have k4 := getD_encPs m2
              have s3 := hm.at (nAt r j)
              have s4 := hm.at (nAt r ((j + 1) % r.length))
              have hse : seenB l r q j = decide (turn (pAt l (nAt r j)) (pAt l (nAt r ((j + 1) % r.length))) (pA l q) < 0) := rfl
              have htr : triL l r q (j + 1) = triL l r q j ++ if seenB l r q j then [(((nAt r ((j + 1) % r.length) : Nat) : Int), ((nAt r j : Nat) : Int), ((q : Nat) : Int))] else [] := rfl
              have hsb : encBl ((List.range (j + 1)).map (seenB l r q)) = (encBl ((List.range j).map (seenB l r q))).take j ++ [IV.bool (seenB l r q j)] := by
                rw [List.range_succ, List.map_append, ← encBl_app, List.take_of_length_le (by omega)]; rfl
              generalize (j + 1) % r.length = jj at *
              generalize nAt r j = a at *
              generalize nAt r jj = b at *
              generalize pAt l a = A at *
              generalize pAt l b = B at *
              generalize pA l q = Q at *
              cases c1 : decide (turn A B Q < 0) with
              | false =>
                rw [c1] at hse
                rw [hse] at hsb htr
                rw [if_neg (by decide), List.append_nil] at htr
                simp only [V_seq, V_skip, V_block, V_region, V_draw, V_cond, brW_false, drawW, WS_nil, pairsOf, W_nil, W_cons, effOp2, effOp3, WI_nil, WI_cons, KN_seq, KN_block, KN_back, dynOK, indB, farB, freshB, freshK, freshK1, heapy, asB, effOp, effPure, effNew, effBuildSlice, effFrz, frz, tmpsOf, effAppend, effZeros, effCall, giveUp, hasAll, skipE, pureV, srcV, refId, binV, partV, eltV, loadV, iaddrV, lenV, ofC, strip, lkT, lkH, ISt.app, opI, gO, gB, allB, gval, wrapG, dstOK, setD, mentTm, mentHp, IV.ment, IV.mentL, partsL, eltsI, eltI, noId', lendV, lendP, lent, lentP, idsV, idsL, lkHS, flat, clean, callArgs, callFn, allLent, Op.operands, Call.operands, List.append_toArray, reduceIte, reduceCtorEq, cond_true, cond_false, Bool.or_false, Bool.and_true, Bool.and_eq_true, Bool.not_true, Bool.not_false, Nat.reduceAdd, Nat.reduceMul, Nat.reduceLT, Nat.reduceLeDiff, Nat.reduceEqDiff, Nat.reduceBEq, Nat.zero_add, ne_eq, not_false_eq_true, true_and, and_true, and_false, and_self, implies_true, forall_const, List.map_cons, List.map_nil, List.nil_append, List.cons_append, List.append_nil, Option.some.injEq, List.getD_cons_zero, List.getD_cons_succ, List.length_cons, List.length_nil, List.take_succ_cons, List.take_zero, List.take_nil, List.drop_zero, ex_clo, or_self, tab3, tab4, tab23, tab34, tab55, tab67, hN, pe, Int.toNat_natCast, lk_spec_sweep_spec_cross, sp_spec_cross, el, er, esn, hwj, t1, k1, k2, k3, k4, s3, s4, sn, gn, c1]
                repeat refine And.intro (by first | omega | (simp; done) | (simp; omega)) ?_
                refine ⟨j + 1, fun x => if x = 58 then 94 else x, by simp only []; omega, by simp only []; omega, ?_⟩
                simp only [htr, hsb]
                simp [SLe, SLe0, convTm, convHp, convB, conv, conv0, lkT, lkH, clean]
                exact ⟨(List.take_of_length_le (by rw [List.length_append, List.length_take]; exact Nat.le_refl _)).symm, fun id a c d => by omega⟩
              | true =>
                rw [c1] at hse
                rw [hse] at hsb htr
                rw [if_pos rfl] at htr
                have hen : encTs (o ++ triL l r q (j + 1)) = (encTs (o ++ triL l r q j)).take (o ++ triL l r q j).length ++ [IV.agg [.num .i64 ((b : Nat) : Int), .num .i64 ((a : Nat) : Int), .num .i64 ((q : Nat) : Int)]] := by
                  rw [htr, ← List.append_assoc, ← encTs_app, take_encTs]; rfl
                have hln : (o ++ triL l r q (j + 1)).length = (o ++ triL l r q j).length + 1 := by rw [htr, ← List.append_assoc, List.length_append]; rfl
                have hlo : (o ++ triL l r q j).length ≤ 2000000 := by rw [List.length_append]; omega
                simp only [V_seq, V_skip, V_block, V_region, V_draw, V_cond, brW_true, drawW, WS_nil, pairsOf, W_nil, W_cons, effOp2, effOp3, WI_nil, WI_cons, KN_seq, KN_block, KN_back, dynOK, indB, farB, freshB, freshK, freshK1, heapy, asB, effOp, effPure, effNew, effBuildSlice, effFrz, frz, tmpsOf, effAppend, effZeros, effCall, giveUp, hasAll, skipE, pureV, srcV, refId, binV, partV, eltV, loadV, iaddrV, lenV, over, solid, buildL, IV.cells, ofC, strip, lkT, lkH, ISt.app, opI, gO, gB, allB, gval, wrapG, dstOK, setD, mentTm, mentHp, IV.ment, IV.mentL, partsL, eltsI, eltI, oneI, noId', lendV, lendP, lent, lentP, idsV, idsL, lkHS, flat, clean, callArgs, callFn, allLent, Op.operands, Call.operands, List.append_toArray, reduceIte, reduceCtorEq, cond_true, cond_false, Bool.or_false, Bool.and_true, Bool.and_eq_true, Bool.not_true, Bool.not_false, Nat.reduceAdd, Nat.reduceMul, Nat.reduceLT, Nat.reduceLeDiff, Nat.reduceEqDiff, Nat.reduceBEq, Nat.zero_add, ne_eq, not_false_eq_true, true_and, and_true, false_and, and_false, and_self, implies_true, forall_const, List.map_cons, List.map_nil, List.nil_append, List.cons_append, List.append_nil, List.all_cons, List.all_nil, Option.some.injEq, List.getD_cons_zero, List.getD_cons_succ, List.length_cons, List.length_nil, List.take_succ_cons, List.take_zero, List.take_nil, List.drop_succ_cons, List.drop_zero, List.drop_nil, ex_clo, or_self, tab3, tab4, tab23, tab25, tab31, tab34, tab55, tab67, hN, pe, Int.toNat_natCast, lk_spec_sweep_spec_cross, sp_spec_cross, el, er, et, esn, hwj, t1, k1, k2, k3, k4, s3, s4, sn, gn, c1]
                repeat refine And.intro (by first | omega | (simp; done) | (simp; omega)) ?_
                refine ⟨j + 1, fun x => if x = 58 then 94 else if x = 13 then 102 else x, by simp only []; omega, by simp only []; omega, ?_⟩
                simp only [hen, hln, hsb]
                simp [SLe, SLe0, convTm, convHp, convB, conv, conv0, lkT, lkH, clean]
                refine ⟨⟨(List.take_of_length_le (by rw [List.length_append, List.length_take]; exact Nat.le_refl _)).symm, (List.take_of_length_le (by rw [List.length_append, List.length_take]; exact Nat.le_refl _)).symm⟩, fun id a c => ?_⟩
                rw [if_neg (by omega), if_neg (by omega)]
            · have hje : j = r.length := by simp at h; omega
              subst hje
              have tks : (encBl ((List.range r.length).map (seenB l r q))).take r.length = encBl ((List.range r.length).map (seenB l r q)) := List.take_of_length_le (by omega)
              have hadd := addR_nxt (l := l) (r := r) (q := q) rfl r.length (Nat.le_refl _)
              have hSl : ((List.range r.length).map (seenB l r q)).length = r.length := seen_take _ _ _ _
              obtain ⟨R, hR⟩ : ∃ R, r.map (fun n => ((n : Nat) : Int)) = R := ⟨_, rfl⟩
              have hRe : encN r = encI R := by rw [encN, hR]
              have hRl : R.length = r.length := by rw [← hR, List.length_map]
              rw [hR] at hadd
              have hres : encI (addR R ((List.range r.length).map (seenB l r q)) (q : Int) r.length) = encN (nxtL l r q r.length) := by rw [hadd]; rfl
              have hrz : r.length ≤ 2000000 := by omega
              simp only [V_seq, V_ret, V_exit, V_region, W_nil, W_cons, effOp2, KN_seq, KN_block, KN_back, KXr_nil, KXe_nil, KXe_seq, KXe_block, KXe_back, QE, effOp, effPure, effCall, giveUp, hasAll, Option.isSome_some, pureV, binV, ofC, strip, lkT, lkH, ISt.app, opI, gO, gB, allB, gval, wrapG, dstOK, setD, lendV, lendP, lent, lentP, idsV, idsL, lkHS, flat, clean, callArgs, callFn, allLent, Gives, Ideal.Fin, conv, conv0, Op.operands, reduceIte, reduceCtorEq, cond_false, Bool.or_false, Bool.not_true, Nat.reduceLT, Nat.reduceEqDiff, Nat.zero_add, ne_eq, true_and, and_true, and_self, implies_true, forall_const, List.map_cons, List.map_nil, List.nil_append, List.cons_append, List.append_nil, Option.some.injEq, List.drop_zero, ex_clo, or_true, Bool.false_eq_true, hN, isIs_enc, toIs_enc, isBls_enc, toBls_enc, lk_spec_sweep_spec_addToRing, sp_spec_addToRing, hwn, esn, hRe, tks, hSl, hRl, hres, hrz]
              refine ⟨Nat.le_refl _, k + 1, id, .inr hk5, by simp only []; omega, ?_⟩
              simp only [hS]
              exact by simp [SLe, SLe0, convTm, convHp, convB, conv, conv0, lkT, lkH, clean]
          · have hie : l.length ≤ i + k := by simp at h; omega
            have hv2 := hfin hie
            have etk := take_encTs o
            simp only [V_seq, V_ret, V_exit, V_region, W_nil, W_cons, effOp2, KN_seq, KXr_nil, KXe_nil, KXe_seq, KXe_block, KXe_back, QE, effOp, effPure, pureV, strip, lkT, lkH, ISt.app, opI, gO, gB, allB, gval, wrapG, dstOK, setD, Gives, Ideal.Fin, conv, conv0, Op.operands, reduceIte, reduceCtorEq, Nat.reduceLT, Nat.reduceEqDiff, Nat.zero_add, ne_eq, true_and, and_self, implies_true, List.nil_append, List.cons_append, Option.some.injEq, List.drop_zero, hN, hv2]
            exact ⟨_, _, rfl, by omega, etk.symm, by simp⟩
    · have hNl := f2 c
      have hnN : n = l.length := by omega
      have hv0 : sweepP l = [] := by rw [hv, show l.length - N = 0 by omega]; rfl
      have d2 : (((n : Nat) : Int) == (l.length : Int)) = true := by rw [hnN]; simp
      simp only [V_seq, V_ret, V_exit, V_region, V_cond, brW_true, brW_false, W_nil, W_cons, effOp2, KN_seq, KXr_nil, KXr_seq, KXe_nil, KXe_seq, KXe_block, KXe_back, QE, asB, effOp, effPure, effPick, effCall, giveUp, hasAll, pureV, pickV, binV, sliceV, lenV, ofC, strip, lkT, lkH, ISt.app, opI, gO, gB, allB, gval, wrapG, dstOK, setD, lendV, lendP, lent, lentP, idsV, idsL, lkHS, flat, clean, callArgs, callFn, allLent, Gives, Ideal.Fin, conv, conv0, Op.operands, Call.operands, List.append_toArray, Array.append_empty, Option.toArray_none, Option.toArray_some, reduceIte, reduceCtorEq, cond_true, cond_false, Bool.or_false, Bool.or_true, Bool.not_false, Nat.reduceLT, Nat.reduceEqDiff, Nat.add_zero, ne_eq, not_false_eq_true, true_and, and_true, false_and, and_false, and_self, false_implies, implies_true, List.map_cons, List.map_nil, List.nil_append, List.cons_append, List.append_nil, Option.some.injEq, Option.map_some, Option.map_none, Option.bind_some, List.getElem?_cons_zero, List.getElem?_cons_succ, List.take_zero, List.drop_zero, ex_clo, bft, or_self, Bool.false_eq_true, tab23, tab34, hN, lk_spec_sweep_spec_collinear, sp_spec_collinear, el, d1, d2, hv0, e0]
      exact ⟨_, _, rfl, Nat.zero_le _, by simp⟩
def sp_spec_sweep : PSpec := ⟨fun xs => match xs with | [.sl 2 les] => isPs les ∧ ((fun (l : List Pt) => siteB l = true) (toPs les)) | _ => False, fun xs => match xs with | [.sl _ les] => (fun (l : List Pt) => .sl 3 (encTs (sweepP l))) (toPs les) | _ => .junk, false⟩
theorem gk_spec_sweep : ∀ args, sp_spec_sweep.pre args → ICall Try.prog 26 args (sp_spec_sweep.val args) := by
  intro args h
  unfold sp_spec_sweep at h ⊢; simp only at h ⊢; split at h
  · obtain ⟨h0, h1⟩ := h
    obtain ⟨l0, rfl⟩ := isP_ex h0
    simp only [toPs_enc] at *
    exact c_spec_sweep _ h1
  · exact h.elim
theorem en_spec_sweep : Enters Try.prog 26 := enters_of Try.func26 (by kernel_rfl) rfl

end Go.Proofs.Yteaanfpkakaaoaa
