/- Contracts: the cells of rectangles. -/
import Derived.Test.YtlifmigihfancaaB52
import Derived.Test.YtlifmigihfancaaB50
import Derived.Test.YtlifmigihfancaaCe
import Derived.Test.YtlifmigihfancaaLayO
set_option linter.unusedVariables false
set_option linter.unusedSimpArgs false
set_option maxHeartbeats 3200000
set_option maxRecDepth 100000
namespace Go.Proofs.Ytlifmigihfancaa
open Go Go.Ideal Go.Pl Go.Sort

/-! cells: five numbers -/
def encC5 (c : Cl) : IV := .agg [.num .i64 c.1.1.1, .num .i64 c.1.1.2, .num .i64 c.1.2.1, .num .i64 c.1.2.2, .num .i64 c.2]
def encC5s (l : List Cl) : List IV := l.map encC5
abbrev cAt (l : List Cl) (i : Nat) : Cl := l.getD i (((0, 0), (0, 0)), 0)
theorem len_encC5s (l : List Cl) : (encC5s l).length = l.length := by simp [encC5s]
theorem getD_encC5s {l : List Cl} {i : Nat} (h : i < l.length) : (encC5s l).getD i .junk = .agg [.num .i64 (cAt l i).1.1.1, .num .i64 (cAt l i).1.1.2, .num .i64 (cAt l i).1.2.1, .num .i64 (cAt l i).1.2.2, .num .i64 (cAt l i).2] := by
  rw [encC5s, getD_map (d := (((0, 0), (0, 0)), 0)) h]; rfl
theorem take_encC5s (l : List Cl) : (encC5s l).take l.length = encC5s l := List.take_of_length_le (by rw [len_encC5s]; exact Nat.le_refl _)
theorem encC5s_app (l m : List Cl) : encC5s l ++ encC5s m = encC5s (l ++ m) := by simp [encC5s]
theorem noSl_encC5s : ∀ l : List Cl, noSlL (encC5s l) = true
  | [] => rfl
  | c :: l => by simp only [encC5s, List.map_cons, encC5, noSlL, noSl, Bool.true_and]; exact noSl_encC5s l

def g_slices_Sort_int_int : List (Nat × PSpec) := []
theorem gok_slices_Sort_int_int : GOK Try.prog g_slices_Sort_int_int := gok0
def h_slices_Sort_int_int : List (Nat × HSpec) := []
theorem hok_slices_Sort_int_int : HOK Try.prog h_slices_Sort_int_int := hok0
theorem c_slices_Sort_int_int (l : List Int) (full : Bool) (hsz : l.length ≤ 1000000) : HCall Try.prog 152 [.ref 1000 0 l.length full] (sm ([(1000, .arr 1 3 (encI l))])) (.tup []) (sm ([(1000, .arr 1 3 (encI (l.mergeSort fun x y => decide (x ≤ y))))])) := by
  exact sortI_hcall Try.sortO l full (by omega) 3
def hs_slices_Sort_int_int : HSpec := ⟨[false], fun xs hp => match xs, hp with | [.ref 1000 0 n full], [(1000, .arr 1 ty es)] => (isIs es) ∧ (ty = 3) ∧ (n = es.length) ∧ ((fun (l : List Int) (full : Bool) => l.length ≤ 1000000) (toIs es) full) | _, _ => False, fun xs hp => match xs, hp with | [.ref 1000 0 n full], [(1000, .arr 1 ty es)] => (fun (l : List Int) (full : Bool) => (.tup [] : IV)) (toIs es) full | _, _ => .junk, fun xs hp => match xs, hp with | [.ref 1000 0 n full], [(1000, .arr 1 ty es)] => (fun (l : List Int) (full : Bool) => ([(1000, .arr 1 3 (encI (l.mergeSort fun x y => decide (x ≤ y))))] : List (Nat × IBlk))) (toIs es) full | _, _ => []⟩
theorem hk_slices_Sort_int_int : ∀ args hp, hs_slices_Sort_int_int.pre args hp → HCall Try.prog 152 args (sm hp) (hs_slices_Sort_int_int.val args hp) (sm (hs_slices_Sort_int_int.hval args hp)) := by
  intro args hp h
  unfold hs_slices_Sort_int_int at h ⊢; simp only at h ⊢; split at h
  · obtain ⟨h1, rfl, rfl, h2⟩ := h; obtain ⟨l, rfl⟩ := isI_ex h1; rw [toIs_enc] at *; rw [len_encI]; exact c_slices_Sort_int_int l _ h2
  · exact h.elim
theorem en_slices_Sort_int_int : Enters Try.prog 152 := enters_of Try.func152 (by kernel_rfl) rfl


def sI (l : List Int) : List Int := l.mergeSort fun x y => decide (x ≤ y)
theorem sI_len (l : List Int) : (sI l).length = l.length := List.length_mergeSort _
theorem comp_sI (l : List Int) : compFI (sI l) = insG ltI l := by
  rw [compFI_eq, ← comp_sortG tot_ltI]
  congr 1
  unfold sI
  congr 1
  funext x y
  show decide (x ≤ y) = !decide (y < x)
  rcases Int.lt_or_le y x with h | h
  · rw [decide_eq_true h, decide_eq_false (by omega)]; rfl
  · rw [decide_eq_true h, decide_eq_false (by omega)]; rfl
def fX (r : Qd) : List Int := [r.1.1, r.2.1]
def fY (r : Qd) : List Int := [r.1.2, r.2.2]
theorem rowC_succ (l : List Rc) (ys : List Int) (x x' : Int) (k : Nat) : rowC l ys x x' (k + 1) = rowC l ys x x' k ++ [cel l x (iA ys k) x' (iA ys (k + 1))] := rfl
theorem grC_succ (l : List Rc) (xs ys : List Int) (k : Nat) : grC l xs ys (k + 1) = grC l xs ys k ++ rowC l ys (iA xs k) (iA xs (k + 1)) (ys.length - 1) := rfl
theorem rowC_len (l : List Rc) (ys : List Int) (x x' : Int) : ∀ k, (rowC l ys x x' k).length = k
  | 0 => rfl
  | k + 1 => by rw [rowC_succ, List.length_append, rowC_len l ys x x' k]; rfl
theorem grC_len (l : List Rc) (xs ys : List Int) : ∀ k, (grC l xs ys k).length = k * (ys.length - 1)
  | 0 => by simp [grC]
  | k + 1 => by rw [grC_succ, List.length_append, grC_len l xs ys k, rowC_len, Nat.succ_mul]
theorem flat_succ (f : Qd → List Int) {l : List Qd} {i : Nat} (hi : i < l.length) : (l.take (i + 1)).flatMap f = (l.take i).flatMap f ++ f (qAt l i) := by
  rw [take_succ_g (d := ((0, 0), (0, 0))) hi, List.flatMap_append]; simp
theorem cnt_succ (p : Qd → Bool) {l : List Qd} {i : Nat} (hi : i < l.length) : (l.take (i + 1)).countP p = (l.take i).countP p + if p (qAt l i) then 1 else 0 := by
  rw [take_succ_g (d := ((0, 0), (0, 0))) hi, List.countP_append]
  congr 1
  simp [List.countP_cons]
theorem flat2 (f : Qd → List Int) (h2 : ∀ q, (f q).length = 2) : ∀ l : List Qd, (l.flatMap f).length = 2 * l.length
  | [] => rfl
  | x :: l => by
    rw [List.flatMap_cons, List.length_append, flat2 f h2 l, h2]
    simp only [List.length_cons]; omega
def g_impl_cells : List (Nat × PSpec) := []
theorem gok_impl_cells : GOK Try.prog g_impl_cells := gok0
def h_impl_cells : List (Nat × HSpec) := [(152, hs_slices_Sort_int_int), (153, hs_slices_Compact_int_int)]
theorem hok_impl_cells : HOK Try.prog h_impl_cells := hok_cons hk_slices_Sort_int_int en_slices_Sort_int_int (hok_cons hk_slices_Compact_int_int en_slices_Compact_int_int (hok0))
theorem lh_impl_cells_slices_Sort_int_int : lkHS h_impl_cells 152 = some hs_slices_Sort_int_int := rfl
theorem lh_impl_cells_slices_Compact_int_int : lkHS h_impl_cells 153 = some hs_slices_Compact_int_int := rfl
theorem c_impl_cells (l : List Qd) (hsz : l.length ≤ 12) : ICall Try.prog 80 [.sl 4 (encQs l)] (.sl 5 (encC5s (celP l))) := by
  refine icall_V (G := g_impl_cells) (H := h_impl_cells) [(18, [(0, 22), (1, 22), (2, 22), (3, 22), (4, 22), (5, 22), (6, 22), (7, 22), (8, 22), (9, 22), (10, 22), (11, 22), (12, 22), (13, 22), (14, 22), (15, 22), (16, 22), (17, 22), (18, 22), (19, 22), (20, 22), (21, 22)])] tabOK mixed gok_impl_cells hok_impl_cells Try.func80 rfl Try.ntmps80 Try.results80 rfl (by kernel_rfl) fun F hN hlen => ?_
  have el := len_encQs l
  simp only [V_seq, V_block, V_region, W_nil, W_cons, effOp2, KN_seq, effOp, effPure, effNew, effBuildSlice, effFrz, frz, tmpsOf, skipE, pureV, lenV, ofC, strip, lkT, ISt.app, opI, gO, gB, allB, gval, wrapG, dstOK, setD, mentTm, mentHp, IV.ment, partsL, eltsI, enumT, Op.operands, Call.operands, List.append_toArray, reduceIte, reduceCtorEq, cond_true, Bool.or_false, Nat.reduceMul, Nat.reduceLT, Nat.reduceLeDiff, Nat.reduceEqDiff, Nat.reduceBEq, ne_eq, not_false_eq_true, true_and, and_self, implies_true, List.nil_append, List.cons_append, List.append_nil, List.length_nil, tab3, tab25, tab32, hN, el]
  refine V_loop (α := Nat) ⟨tabOK, mixed, gok_impl_cells, hok_impl_cells⟩ (by kernel_rfl) (fun i => i ≤ l.length) (fun i => ⟨[(17, .num .i64 i), (16, .num .i64 l.length), (15, .sl 4 (encQs l)), (4, .ref 14 0 (2 * i) true), (3, .ref 13 0 (2 * i) true), (0, .sl 4 (encQs l))], [(13, some (.arr 1 3 (encI ((l.take i).flatMap fX)))), (14, some (.arr 1 3 (encI ((l.take i).flatMap fY))))]⟩) (fun i => l.length - i) 0 id (Nat.zero_le _) (by simp [SLe, SLe0, convTm, convHp, convB, conv, conv0, lkT, lkH, clean, encI]) ?_
  intro i hi
  have lA := flat2 fX (fun _ => rfl) (l.take i)
  have lB := flat2 fY (fun _ => rfl) (l.take i)
  rw [List.length_take, show min i l.length = i by omega] at lA lB
  have sA := fun h => flat_succ fX (l := l) (i := i) h
  have sB := fun h => flat_succ fY (l := l) (i := i) h
  have fA : i = l.length → (l.take i).flatMap fX = l.flatMap fX := fun e => by rw [e, List.take_length]
  have fB : i = l.length → (l.take i).flatMap fY = l.flatMap fY := fun e => by rw [e, List.take_length]
  obtain ⟨A, hA⟩ : ∃ A, (l.take i).flatMap fX = A := ⟨_, rfl⟩
  obtain ⟨B, hB⟩ : ∃ B, (l.take i).flatMap fY = B := ⟨_, rfl⟩
  rw [hA] at lA sA fA
  rw [hB] at lB sB fB
  simp only [hA, hB]
  have eA : (encI A).length = 2 * i := by rw [len_encI, lA]
  have eB : (encI B).length = 2 * i := by rw [len_encI, lB]
  have tA : (encI A).take (2 * i) = encI A := List.take_of_length_le (by omega)
  have tB : (encI B).take (2 * i) = encI B := List.take_of_length_le (by omega)
  have hxA : ∃ k ty es, IBlk.arr 1 3 (encI A) = IBlk.arr k ty es := ⟨_, _, _, rfl⟩
  have hxB : ∃ k ty es, IBlk.arr 1 3 (encI B) = IBlk.arr k ty es := ⟨_, _, _, rfl⟩
  simp only [V_seq, V_region, V_cond, W_nil, W_cons, effOp2, KN_seq, asB, effOp, effPure, pureV, binV, strip, lkT, ISt.app, opI, gO, gB, allB, gval, wrapG, dstOK, setD, Op.operands, reduceIte, reduceCtorEq, Nat.reduceLT, Nat.reduceEqDiff, true_and, and_self, implies_true, List.nil_append, List.cons_append, hN]
  refine brW_some (fun h => ?_) (fun h => ?_)
  · have hi' : i < l.length := by simpa using h
    have g := getD_encQs hi'
    have hw := wr_succ hi' (by rw [maxLen_eq]; omega)
    have uA := sA hi'
    have uB := sB hi'
    obtain ⟨q, hq⟩ : ∃ q, qAt l i = q := ⟨_, rfl⟩
    rw [hq] at g uA uB
    have vA : encI ((l.take (i + 1)).flatMap fX) = encI A ++ [.num .i64 q.1.1, .num .i64 q.2.1] := by rw [uA, ← encI_app]; rfl
    have vB : encI ((l.take (i + 1)).flatMap fY) = encI B ++ [.num .i64 q.1.2, .num .i64 q.2.2] := by rw [uB, ← encI_app]; rfl
    simp only [V_seq, V_skip, V_block, V_region, W_nil, W_cons, effOp2, KN_seq, KN_block, KN_back, effOp, effPure, effNew, effAlloc, effBuildSlice, effFrz, frz, tmpsOf, effStore, effAppend, effZeros, skipE, pureV, storeV, srcV, refId, binV, partV, eltV, loadV, faddrV, iaddrV, over, solid, IV.cells, ofC, strip, lkT, lkH, ISt.app, opI, gO, gB, allB, gval, wrapG, dstOK, setD, mentTm, mentHp, IV.ment, IV.mentL, partsL, eltsI, eltI, oneI, noId', IBlk.shape, Op.operands, reduceIte, reduceCtorEq, cond_true, Bool.or_false, Bool.and_true, Nat.reduceAdd, Nat.reduceMul, Nat.reduceLT, Nat.reduceLeDiff, Nat.reduceEqDiff, Nat.reduceBEq, Nat.add_zero, Nat.zero_add, ne_eq, not_false_eq_true, true_and, and_true, and_false, and_self, implies_true, forall_const, List.nil_append, List.cons_append, List.append_nil, List.all_cons, List.all_nil, Option.some.injEq, Option.map_some, List.getD_cons_zero, List.getD_cons_succ, List.length_cons, List.length_nil, List.take_succ_cons, List.take_zero, List.take_nil, List.drop_succ_cons, List.drop_zero, List.drop_nil, tab3, tab25, tab30, tab32, tab37, hN, Int.toNat_natCast, el, eA, eB, tA, tB, g, hw]
    repeat refine And.intro (by first | omega | (simp; done) | (simp; omega)) ?_
    refine ⟨i + 1, fun x => if x = 13 then 29 else if x = 14 then 38 else x, by simp only []; omega, by simp only []; omega, ?_⟩
    simp only [vA, vB]
    simp [SLe, SLe0, convTm, convHp, convB, conv, conv0, lkT, lkH, clean]
    refine ⟨⟨by omega, (List.take_of_length_le (by rw [List.length_append]; exact Nat.le_refl _)).symm, (List.take_of_length_le (by rw [List.length_append]; exact Nat.le_refl _)).symm⟩, fun id h1 _ => ?_⟩
    rw [if_neg (by omega), if_neg (by omega)]
  · have hie : i = l.length := by simp at h; omega
    have hA2 := fA hie
    have hB2 := fB hie
    clear sA sB fA fB
    have cX : compFI (sI A) = bxs l := by rw [hA2]; exact comp_sI _
    have cY : compFI (sI B) = bys l := by rw [hB2]; exact comp_sI _
    have mX : A.mergeSort (fun x y => decide (x ≤ y)) = sI A := rfl
    have mY : B.mergeSort (fun x y => decide (x ≤ y)) = sI B := rfl
    have lSA : (encI (sI A)).length = 2 * i := by rw [len_encI, sI_len, lA]
    have lSB : (encI (sI B)).length = 2 * i := by rw [len_encI, sI_len, lB]
    have kA : (sI A).length ≤ 1000000 := by rw [sI_len]; omega
    have kB : (sI B).length ≤ 1000000 := by rw [sI_len]; omega
    have kA2 : A.length ≤ 1000000 := by omega
    have kB2 : B.length ≤ 1000000 := by omega
    have z1 := bxs_len l
    have z2 := bys_len l
    have hcel : celP l = grC l (bxs l) (bys l) ((bxs l).length - 1) := rfl
    obtain ⟨X, hX⟩ : ∃ X, bxs l = X := ⟨_, rfl⟩
    obtain ⟨Y, hY⟩ : ∃ Y, bys l = Y := ⟨_, rfl⟩
    rw [hX] at z1 cX hcel
    rw [hY] at z2 cY hcel
    simp only [V_seq, V_exit, V_block, V_region, W_nil, W_cons, effOp2, KN_seq, KXe_nil, KXe_seq, KXe_block, KXe_back, QE, effOp, effPure, effNew, effBuildSlice, effFrz, frz, tmpsOf, Option.isSome_some, skipE, pureV, ofC, strip, lkT, lkH, ISt.app, opI, gO, gB, allB, gval, wrapG, dstOK, setD, mentTm, mentHp, IV.ment, IV.mentL, partsL, eltsI, idsV, idsL, callArgs, callFn, enumT, Ideal.Fin, conv, conv0, convL, IBlk.shape, Op.operands, reduceIte, reduceCtorEq, cond_true, cond_false, Bool.or_false, Bool.or_true, Bool.and_true, Nat.reduceAdd, Nat.reduceSub, Nat.reduceMul, Nat.reduceLT, Nat.reduceLeDiff, Nat.reduceEqDiff, Nat.reduceBEq, ne_eq, not_false_eq_true, beq_self_eq_true, true_and, and_true, and_false, and_self, implies_true, List.map_cons, List.map_nil, List.nil_append, List.cons_append, List.append_nil, List.all_nil, Option.map_some, List.getD_cons_zero, List.length_nil, ex_clo, true_or, Bool.true_eq_false, tab93, tab94, hN, isIs_enc, toIs_enc, SLe0, convTm, convHp, convB, sm, effH, mkHC0, mkHC1, lendM, lentM, lentI, allHere, addIds, idsB, flatIds, reach, posn, renV, renL, renB, renH, numB, subHp, fwd, bk, bwd, nones, keyOK, noSl, noSlL, flatBs, List.contains, List.elem, Option.isSome_some, List.nodup_nil, List.nodup_cons, List.not_mem_nil, Option.getD_some, lh_impl_cells_slices_Sort_int_int, lh_impl_cells_slices_Compact_int_int, hs_slices_Sort_int_int, hs_slices_Compact_int_int, eA, eB, mX, mY, lSA, lSB, kA, kB, kA2, kB2, cX, cY]
    have tSA : encI (sI A) = (encI (sI A)).take (2 * i) := (List.take_of_length_le (by omega)).symm
    have tSB : encI (sI B) = (encI (sI B)).take (2 * i) := (List.take_of_length_le (by omega)).symm
    refine ⟨⟨tA.symm, tSA⟩, ⟨tB.symm, tSB⟩, ⟨tSA, List.take_length.symm⟩, ⟨tSB, List.take_length.symm⟩, ?_⟩
    clear tSA tSB tA tB lSA lSB kA kB kA2 kB2 cX cY mX mY hxA hxB eA eB
    have eX := len_encI X
    have eY := len_encI Y
    have hxX : ∃ k ty es, IBlk.arr 1 3 (encI X) = IBlk.arr k ty es := ⟨_, _, _, rfl⟩
    have hxY : ∃ k ty es, IBlk.arr 1 3 (encI Y) = IBlk.arr k ty es := ⟨_, _, _, rfl⟩
    refine V_loop (α := Nat) ⟨tabOK, mixed, gok_impl_cells, hok_impl_cells⟩ (by kernel_rfl) (fun j => j ≤ X.length - 1) (fun j => ⟨[(8, .num .i64 ((j + 1 : Nat) : Int)), (7, .ref 48 0 (grC l X Y j).length true), (4, .ref 14 0 Y.length true), (3, .ref 13 0 X.length true), (0, .sl 4 (encQs l))], [(48, some (.arr 5 93 (encC5s (grC l X Y j)))), (13, some (.arr 1 3 (encI X))), (14, some (.arr 1 3 (encI Y)))]⟩) (fun j => X.length - j) 0 id (Nat.zero_le _) (by simp [SLe, SLe0, convTm, convHp, convB, conv, conv0, lkT, lkH, clean, encC5s, grC]) ?_
    intro j hj
    have hgs := grC_succ l X Y j
    have hgl := grC_len l X Y j
    obtain ⟨G, hG⟩ : ∃ G, grC l X Y j = G := ⟨_, rfl⟩
    rw [hG] at hgs hgl
    simp only [hG]
    have eG := len_encC5s G
    have hxG : ∃ k ty es, IBlk.arr 5 93 (encC5s G) = IBlk.arr k ty es := ⟨_, _, _, rfl⟩
    simp only [V_seq, V_region, V_cond, W_nil, W_cons, effOp2, KN_seq, asB, effOp, effPure, pureV, binV, lenV, strip, lkT, ISt.app, opI, gO, gB, allB, gval, wrapG, dstOK, setD, Op.operands, Call.operands, List.append_toArray, reduceIte, reduceCtorEq, Nat.reduceLT, Nat.reduceEqDiff, ne_eq, not_false_eq_true, true_and, and_self, implies_true, List.nil_append, List.cons_append, tab25, hN]
    refine brW_some (fun h2 => ?_) (fun h2 => ?_)
    · have hj' : j + 1 < X.length := by simp at h2; omega
      have w1 : IntKind.i64.wrap (((j + 1 : Nat) : Int) - 1) = ((j : Nat) : Int) := by rw [wr (by omega) (by omega)]; omega
      have w2 : IntKind.i64.wrap (((j + 1 : Nat) : Int) + 1) = ((j + 1 + 1 : Nat) : Int) := by rw [wr (by omega) (by omega)]; omega
      have gx0 := getD_encI (l := X) (i := j) (by omega)
      have gx1 := getD_encI (l := X) (i := j + 1) (by omega)
      have ix0 : X.getD j 0 = iA X j := rfl
      have ix1 : X.getD (j + 1) 0 = iA X (j + 1) := rfl
      rw [ix0] at gx0
      rw [ix1] at gx1
      have hGm : G.length ≤ 24 * 24 := by
        rw [hgl]
        exact Nat.mul_le_mul (by omega) (by omega)
      simp only [V_seq, V_skip, V_block, V_region, W_nil, W_cons, effOp2, KN_seq, effOp, effPure, pureV, ofC, strip, ISt.app, opI, gO, gB, allB, gval, wrapG, dstOK, setD, Op.operands, Nat.reduceLT, true_and, and_self, implies_true, List.nil_append, List.cons_append, hN]
      refine V_loop (α := Nat) ⟨tabOK, mixed, gok_impl_cells, hok_impl_cells⟩ (by kernel_rfl) (fun k => k ≤ Y.length - 1) (fun k => ⟨[(9, .num .i64 ((k + 1 : Nat) : Int)), (8, .num .i64 ((j + 1 : Nat) : Int)), (7, .ref 48 0 (G ++ rowC l Y (iA X j) (iA X (j + 1)) k).length true), (4, .ref 14 0 Y.length true), (3, .ref 13 0 X.length true), (0, .sl 4 (encQs l))], [(48, some (.arr 5 93 (encC5s (G ++ rowC l Y (iA X j) (iA X (j + 1)) k)))), (13, some (.arr 1 3 (encI X))), (14, some (.arr 1 3 (encI Y)))]⟩) (fun k => Y.length - k) 0 id (Nat.zero_le _) (by simp [SLe, SLe0, convTm, convHp, convB, conv, conv0, lkT, lkH, clean, rowC]) ?_
      intro k hk
      have hrs := rowC_succ l Y (iA X j) (iA X (j + 1)) k
      have hrl := rowC_len l Y (iA X j) (iA X (j + 1)) k
      obtain ⟨R, hR⟩ : ∃ R, rowC l Y (iA X j) (iA X (j + 1)) k = R := ⟨_, rfl⟩
      rw [hR] at hrs hrl
      have happ : G ++ rowC l Y (iA X j) (iA X (j + 1)) (k + 1) = (G ++ R) ++ [cel l (iA X j) (iA Y k) (iA X (j + 1)) (iA Y (k + 1))] := by rw [hrs, List.append_assoc]
      simp only [hR]
      have lM : (G ++ R).length = G.length + k := by rw [List.length_append, hrl]
      obtain ⟨M, hM⟩ : ∃ M, G ++ R = M := ⟨_, rfl⟩
      rw [hM] at happ lM
      simp only [hM]
      have eM := len_encC5s M
      have hxM : ∃ k ty es, IBlk.arr 5 93 (encC5s M) = IBlk.arr k ty es := ⟨_, _, _, rfl⟩
      simp only [V_seq, V_region, V_cond, W_nil, W_cons, effOp2, KN_seq, asB, effOp, effPure, pureV, binV, lenV, strip, lkT, ISt.app, opI, gO, gB, allB, gval, wrapG, dstOK, setD, Op.operands, Call.operands, List.append_toArray, reduceIte, reduceCtorEq, Nat.reduceLT, Nat.reduceEqDiff, ne_eq, not_false_eq_true, true_and, and_self, implies_true, List.nil_append, List.cons_append, tab25, hN]
      refine brW_some (fun h3 => ?_) (fun h3 => ?_)
      · have hk' : k + 1 < Y.length := by simp at h3; omega
        have w3 : IntKind.i64.wrap (((k + 1 : Nat) : Int) - 1) = ((k : Nat) : Int) := by rw [wr (by omega) (by omega)]; omega
        have w4 : IntKind.i64.wrap (((k + 1 : Nat) : Int) + 1) = ((k + 1 + 1 : Nat) : Int) := by rw [wr (by omega) (by omega)]; omega
        have gy0 := getD_encI (l := Y) (i := k) (by omega)
        have gy1 := getD_encI (l := Y) (i := k + 1) (by omega)
        have iy0 : Y.getD k 0 = iA Y k := rfl
        have iy1 : Y.getD (k + 1) 0 = iA Y (k + 1) := rfl
        rw [iy0] at gy0
        rw [iy1] at gy1
        obtain ⟨x, hx⟩ : ∃ x, iA X j = x := ⟨_, rfl⟩
        obtain ⟨x', hx'⟩ : ∃ x, iA X (j + 1) = x := ⟨_, rfl⟩
        obtain ⟨y, hy⟩ : ∃ x, iA Y k = x := ⟨_, rfl⟩
        obtain ⟨y', hy'⟩ : ∃ x, iA Y (k + 1) = x := ⟨_, rfl⟩
        rw [hx] at gx0
        rw [hx'] at gx1
        rw [hy] at gy0
        rw [hy'] at gy1
        rw [hx, hx', hy, hy'] at happ
        simp only [V_seq, V_skip, V_block, V_region, V_draw, drawW, WS_nil, pairsOf, W_nil, W_cons, effOp2, effOp3, WI_nil, WI_cons, KN_seq, dynOK, indB, farB, seeB, see, isStore, freshB, freshK, freshK1, heapy, effOp, effPure, effNew, effAlloc, effStore, skipE, pureV, storeV, binV, eltV, loadV, iaddrV, lenV, over, solid, buildL, IV.cells, ofC, strip, lkT, lkH, ISt.app, opI, gO, gB, allB, gval, wrapG, dstOK, setD, mentTm, mentHp, IV.ment, IV.mentL, oneI, Op.operands, Call.operands, List.append_toArray, reduceIte, reduceCtorEq, cond_true, cond_false, Bool.or_false, Bool.or_true, Bool.and_true, Bool.and_false, Bool.and_eq_true, Bool.not_false, Nat.reduceAdd, Nat.reduceLT, Nat.reduceLeDiff, Nat.reduceEqDiff, Nat.reduceBEq, Nat.zero_add, ne_eq, not_false_eq_true, beq_self_eq_true, true_and, and_true, and_self, implies_true, forall_const, List.map_cons, List.map_nil, List.nil_append, List.cons_append, List.append_nil, List.all_cons, List.all_nil, List.getD_cons_zero, List.getD_cons_succ, List.length_cons, List.length_nil, List.take_succ_cons, List.take_zero, List.drop_succ_cons, List.drop_zero, List.drop_nil, tab3, tab25, tab30, tab32, tab37, tab93, hN, Int.toNat_natCast, el, eX, eY, w1, w3, gx0, gx1, gy0, gy1]
        repeat refine And.intro (by first | omega | (simp; done) | (simp; omega)) ?_
        obtain ⟨P, hP⟩ : ∃ P, Pl.inR ((x, y), (x', y')) = P := ⟨_, rfl⟩
        have hcl : cel l x y x' y' = (((x, y), (x', y')), ((l.countP P : Nat) : Int)) := by rw [cel, hP]
        refine V_loop (α := Nat) ⟨tabOK, mixed, gok_impl_cells, hok_impl_cells⟩ (by kernel_rfl) (fun m => m ≤ l.length) (fun m => ⟨[(85, .num .i64 m), (84, .num .i64 l.length), (83, .sl 4 (encQs l)), (10, .ptr 10 0), (9, .num .i64 ((k + 1 : Nat) : Int)), (8, .num .i64 ((j + 1 : Nat) : Int)), (7, .ref 48 0 M.length true), (4, .ref 14 0 Y.length true), (3, .ref 13 0 X.length true), (0, .sl 4 (encQs l))], [(10, some (.box 93 [.num .i64 x, .num .i64 y, .num .i64 x', .num .i64 y', .num .i64 (((l.take m).countP P : Nat) : Int)])), (48, some (.arr 5 93 (encC5s M))), (13, some (.arr 1 3 (encI X))), (14, some (.arr 1 3 (encI Y)))]⟩) (fun m => l.length - m) 0 id (Nat.zero_le _) (by simp [SLe, SLe0, convTm, convHp, convB, conv, conv0, convL, lkT, lkH, clean]) ?_
        intro m hm
        have hcs := fun h => cnt_succ P (l := l) (i := m) h
        have hcb : (l.take m).countP P ≤ m := Nat.le_trans List.countP_le_length (by rw [List.length_take]; omega)
        have hce : m = l.length → (l.take m).countP P = l.countP P := fun e => by rw [e, List.take_length]
        obtain ⟨D, hD⟩ : ∃ D, (l.take m).countP P = D := ⟨_, rfl⟩
        rw [hD] at hcs hcb hce
        simp only [hD]
        simp only [V_seq, V_region, V_cond, W_nil, W_cons, effOp2, KN_seq, asB, effOp, effPure, pureV, binV, strip, lkT, ISt.app, opI, gO, gB, allB, gval, wrapG, dstOK, setD, Op.operands, reduceIte, reduceCtorEq, Nat.reduceLT, Nat.reduceEqDiff, true_and, and_self, implies_true, List.nil_append, List.cons_append, hN]
        refine brW_some (fun h4 => ?_) (fun h4 => ?_)
        · have hm' : m < l.length := by simpa using h4
          have g := getD_encQs hm'
          have hw := wr_succ hm' (by rw [maxLen_eq]; omega)
          have hst := hcs hm'
          obtain ⟨q, hq⟩ : ∃ q, qAt l m = q := ⟨_, rfl⟩
          rw [hq] at g hst
          have hPq : P q = (decide (q.1.1 ≤ x) && decide (x' ≤ q.2.1) && decide (q.1.2 ≤ y) && decide (y' ≤ q.2.2)) := by rw [← hP]; rfl
          have wD : IntKind.i64.wrap ((D : Int) + 1) = ((D + 1 : Nat) : Int) := by rw [wr (by omega) (by omega)]; omega
          cases c1 : decide (q.1.1 ≤ x) with
          | false =>
            rw [hPq, c1, Bool.false_and, Bool.false_and, Bool.false_and, if_neg (by decide), Nat.add_zero] at hst
            simp only [V_seq, V_skip, V_block, V_region, V_cond, brW_false, W_nil, W_cons, effOp2, KN_seq, KN_block, KN_back, asB, effOp, effPure, effPick, effNew, effAlloc, effStore, skipE, pureV, pickV, storeV, binV, partV, eltV, loadV, faddrV, iaddrV, over, solid, IV.cells, ofC, strip, lkT, lkH, ISt.app, opI, gO, gB, allB, gval, wrapG, dstOK, setD, mentTm, mentHp, IV.ment, IV.mentL, oneI, IBlk.shape, Op.operands, reduceIte, reduceCtorEq, cond_true, cond_false, Bool.or_false, Bool.and_true, Nat.reduceAdd, Nat.reduceLT, Nat.reduceLeDiff, Nat.reduceEqDiff, Nat.reduceBEq, Nat.add_zero, Nat.zero_add, ne_eq, not_false_eq_true, true_and, and_true, and_false, and_self, false_implies, implies_true, forall_const, List.nil_append, List.cons_append, List.append_nil, List.all_cons, List.all_nil, Option.map_some, Option.bind_some, List.getElem?_cons_zero, List.getElem?_cons_succ, List.getD_cons_zero, List.getD_cons_succ, List.length_cons, List.length_nil, List.take_succ_cons, List.take_zero, List.take_nil, List.drop_succ_cons, List.drop_zero, List.drop_nil, bft, Bool.false_eq_true, tab3, tab30, tab32, tab37, tab93, hN, Int.toNat_natCast, el, g, hw, c1]
            repeat refine And.intro (by first | omega | (simp; done) | (simp; omega)) ?_
            exact ⟨m + 1, id, by simp only []; omega, by simp only []; omega, by simp only [hst]; exact by simp [SLe, SLe0, convTm, convHp, convB, conv, conv0, convL, lkT, lkH, clean]⟩
          | true =>
            cases c2 : decide (x' ≤ q.2.1) with
            | false =>
              rw [hPq, c1, c2, Bool.and_false, Bool.false_and, Bool.false_and, if_neg (by decide), Nat.add_zero] at hst
              simp only [V_seq, V_skip, V_block, V_region, V_cond, brW_false, W_nil, W_cons, effOp2, KN_seq, KN_block, KN_back, asB, effOp, effPure, effPick, effNew, effAlloc, effStore, skipE, pureV, pickV, storeV, binV, partV, eltV, loadV, faddrV, iaddrV, over, solid, IV.cells, ofC, strip, lkT, lkH, ISt.app, opI, gO, gB, allB, gval, wrapG, dstOK, setD, mentTm, mentHp, IV.ment, IV.mentL, oneI, IBlk.shape, Op.operands, reduceIte, reduceCtorEq, cond_true, cond_false, Bool.or_false, Bool.and_true, Nat.reduceAdd, Nat.reduceLT, Nat.reduceLeDiff, Nat.reduceEqDiff, Nat.reduceBEq, Nat.add_zero, Nat.zero_add, ne_eq, not_false_eq_true, beq_self_eq_true, true_and, and_true, and_false, and_self, false_implies, implies_true, forall_const, List.nil_append, List.cons_append, List.append_nil, List.all_cons, List.all_nil, Option.map_some, Option.bind_some, List.getElem?_cons_zero, List.getElem?_cons_succ, List.getD_cons_zero, List.getD_cons_succ, List.length_cons, List.length_nil, List.take_succ_cons, List.take_zero, List.take_nil, List.drop_succ_cons, List.drop_zero, List.drop_nil, bft, Bool.true_eq_false, Bool.false_eq_true, tab3, tab30, tab32, tab37, tab93, hN, Int.toNat_natCast, el, g, hw, c1, c2]
              repeat refine And.intro (by first | omega | (simp; done) | (simp; omega)) ?_
              exact ⟨m + 1, id, by simp only []; omega, by simp only []; omega, by simp only [hst]; exact by simp [SLe, SLe0, convTm, convHp, convB, conv, conv0, convL, lkT, lkH, clean]⟩
            | true =>
              cases c3 : decide (q.1.2 ≤ y) with
              | false =>
                rw [hPq, c1, c2, c3, Bool.and_false, Bool.false_and, if_neg (by decide), Nat.add_zero] at hst
                simp only [V_seq, V_skip, V_block, V_region, V_cond, brW_false, W_nil, W_cons, effOp2, KN_seq, KN_block, KN_back, asB, effOp, effPure, effPick, effNew, effAlloc, effStore, skipE, pureV, pickV, storeV, binV, partV, eltV, loadV, faddrV, iaddrV, over, solid, IV.cells, ofC, strip, lkT, lkH, ISt.app, opI, gO, gB, allB, gval, wrapG, dstOK, setD, mentTm, mentHp, IV.ment, IV.mentL, oneI, IBlk.shape, Op.operands, reduceIte, reduceCtorEq, cond_true, cond_false, Bool.or_false, Bool.and_true, Nat.reduceAdd, Nat.reduceLT, Nat.reduceLeDiff, Nat.reduceEqDiff, Nat.reduceBEq, Nat.add_zero, Nat.zero_add, ne_eq, not_false_eq_true, beq_self_eq_true, true_and, and_true, and_false, and_self, false_implies, implies_true, forall_const, List.nil_append, List.cons_append, List.append_nil, List.all_cons, List.all_nil, Option.map_some, Option.bind_some, List.getElem?_cons_zero, List.getElem?_cons_succ, List.getD_cons_zero, List.getD_cons_succ, List.length_cons, List.length_nil, List.take_succ_cons, List.take_zero, List.take_nil, List.drop_succ_cons, List.drop_zero, List.drop_nil, bft, Bool.true_eq_false, Bool.false_eq_true, tab3, tab30, tab32, tab37, tab93, hN, Int.toNat_natCast, el, g, hw, c1, c2, c3]
                repeat refine And.intro (by first | omega | (simp; done) | (simp; omega)) ?_
                exact ⟨m + 1, id, by simp only []; omega, by simp only []; omega, by simp only [hst]; exact by simp [SLe, SLe0, convTm, convHp, convB, conv, conv0, convL, lkT, lkH, clean]⟩
              | true =>
                cases c4 : decide (y' ≤ q.2.2) with
                | false =>
                  rw [hPq, c1, c2, c3, c4, Bool.and_false, if_neg (by decide), Nat.add_zero] at hst
                  simp only [V_seq, V_skip, V_block, V_region, V_cond, brW_false, W_nil, W_cons, effOp2, KN_seq, KN_block, KN_back, asB, effOp, effPure, effPick, effNew, effAlloc, effStore, skipE, pureV, pickV, storeV, binV, partV, eltV, loadV, faddrV, iaddrV, over, solid, IV.cells, ofC, strip, lkT, lkH, ISt.app, opI, gO, gB, allB, gval, wrapG, dstOK, setD, mentTm, mentHp, IV.ment, IV.mentL, oneI, IBlk.shape, Op.operands, reduceIte, reduceCtorEq, cond_true, Bool.or_false, Bool.and_true, Nat.reduceAdd, Nat.reduceLT, Nat.reduceLeDiff, Nat.reduceEqDiff, Nat.reduceBEq, Nat.add_zero, Nat.zero_add, ne_eq, not_false_eq_true, beq_self_eq_true, true_and, and_true, and_false, and_self, implies_true, forall_const, List.nil_append, List.cons_append, List.append_nil, List.all_cons, List.all_nil, Option.map_some, Option.bind_some, List.getElem?_cons_zero, List.getElem?_cons_succ, List.getD_cons_zero, List.getD_cons_succ, List.length_cons, List.length_nil, List.take_succ_cons, List.take_zero, List.take_nil, List.drop_succ_cons, List.drop_zero, List.drop_nil, Bool.true_eq_false, tab3, tab30, tab32, tab37, tab93, hN, Int.toNat_natCast, el, g, hw, c1, c2, c3, c4]
                  repeat refine And.intro (by first | omega | (simp; done) | (simp; omega)) ?_
                  exact ⟨m + 1, id, by simp only []; omega, by simp only []; omega, by simp only [hst]; exact by simp [SLe, SLe0, convTm, convHp, convB, conv, conv0, convL, lkT, lkH, clean]⟩
                | true =>
                  rw [hPq, c1, c2, c3, c4, Bool.and_self, Bool.and_self, Bool.and_self, if_pos rfl] at hst
                  simp only [V_seq, V_skip, V_block, V_region, V_cond, brW_true, W_nil, W_cons, effOp2, KN_seq, KN_block, KN_back, asB, effOp, effPure, effPick, effNew, effAlloc, effStore, skipE, pureV, pickV, storeV, binV, partV, eltV, loadV, faddrV, iaddrV, over, solid, IV.cells, ofC, strip, lkT, lkH, ISt.app, opI, gO, gB, allB, gval, wrapG, dstOK, setD, mentTm, mentHp, IV.ment, IV.mentL, oneI, IBlk.shape, Op.operands, reduceIte, reduceCtorEq, cond_true, Bool.or_false, Bool.and_true, Nat.reduceAdd, Nat.reduceLT, Nat.reduceLeDiff, Nat.reduceEqDiff, Nat.reduceBEq, Nat.add_zero, Nat.zero_add, ne_eq, not_false_eq_true, beq_self_eq_true, true_and, and_true, and_false, and_self, implies_true, forall_const, List.nil_append, List.cons_append, List.append_nil, List.all_cons, List.all_nil, Option.map_some, Option.bind_some, List.getElem?_cons_zero, List.getElem?_cons_succ, List.getD_cons_zero, List.getD_cons_succ, List.length_cons, List.length_nil, List.take_succ_cons, List.take_zero, List.take_nil, List.drop_succ_cons, List.drop_zero, List.drop_nil, Bool.true_eq_false, tab3, tab30, tab32, tab37, tab93, hN, Int.toNat_natCast, el, g, hw, wD, c1, c2, c3, c4]
                  repeat refine And.intro (by first | omega | (simp; done) | (simp; omega)) ?_
                  exact ⟨m + 1, id, by simp only []; omega, by simp only []; omega, by simp only [hst]; exact by simp [SLe, SLe0, convTm, convHp, convB, conv, conv0, convL, lkT, lkH, clean]⟩
        · have hme : m = l.length := by simp at h4; omega
          have hDe := hce hme
          have tM := take_encC5s M
          rw [hcl] at happ
          have happ2 : encC5s (G ++ rowC l Y (iA X j) (iA X (j + 1)) (k + 1)) = encC5s M ++ [.agg [.num .i64 x, .num .i64 y, .num .i64 x', .num .i64 y', .num .i64 ((l.countP P : Nat) : Int)]] := by
            rw [hx, hx', happ, ← encC5s_app]; rfl
          have hlen2 : (G ++ rowC l Y (iA X j) (iA X (j + 1)) (k + 1)).length = M.length + 1 := by rw [hx, hx', happ, List.length_append]; rfl
          obtain ⟨Z, hZ⟩ : ∃ Z, G ++ rowC l Y (iA X j) (iA X (j + 1)) (k + 1) = Z := ⟨_, rfl⟩
          rw [hZ] at happ2 hlen2
          simp only [V_seq, V_ret, V_exit, V_region, W_nil, W_cons, effOp2, KN_seq, KN_block, KN_back, KXr_nil, KXe_nil, KXe_seq, KXe_block, KXe_back, QE, effOp, effPure, effNew, effBuildSlice, effFrz, frz, tmpsOf, effAppend, effZeros, skipE, pureV, srcV, refId, binV, partV, loadV, ofC, strip, lkT, lkH, ISt.app, opI, gO, gB, allB, gval, wrapG, dstOK, setD, mentTm, mentHp, IV.ment, IV.mentL, partsL, eltsI, eltI, oneI, noId', Gives, Ideal.Fin, conv, conv0, Op.operands, reduceIte, reduceCtorEq, cond_true, Bool.or_false, Bool.and_true, Nat.reduceAdd, Nat.reduceMul, Nat.reduceLT, Nat.reduceLeDiff, Nat.reduceEqDiff, Nat.reduceBEq, Nat.zero_add, ne_eq, not_false_eq_true, true_and, and_true, and_false, and_self, false_implies, implies_true, List.nil_append, List.cons_append, List.append_nil, List.all_cons, List.all_nil, Option.some.injEq, List.getD_cons_zero, List.length_cons, List.length_nil, List.take_succ_cons, List.take_nil, List.drop_zero, Bool.false_eq_true, tab93, tab94, hN, Option.isSome_none, eM, tM, hDe, w4]
          repeat refine And.intro (by first | omega | (simp; done) | (simp; omega)) ?_
          refine ⟨k + 1, fun z => if z = 48 then 135 else z, by simp only []; omega, by simp only []; omega, ?_⟩
          simp only [hZ, happ2, hlen2]
          simp [SLe, SLe0, convTm, convHp, convB, conv, conv0, lkT, lkH, clean]
          exact ⟨(List.take_of_length_le (by rw [List.length_append, eM]; exact Nat.le_refl _)).symm, fun id h1 _ => by omega⟩
      · have hke : k = Y.length - 1 := by simp at h3; omega
        subst hke
        simp only [V_seq, V_ret, V_exit, V_region, W_nil, W_cons, effOp2, KN_seq, KN_block, KN_back, KXr_nil, KXe_nil, KXe_seq, KXe_block, KXe_back, QE, effOp, effPure, pureV, binV, ofC, strip, lkT, lkH, ISt.app, opI, gO, gB, allB, gval, wrapG, dstOK, setD, Gives, Ideal.Fin, conv, conv0, Op.operands, reduceIte, reduceCtorEq, Nat.reduceLT, Nat.reduceEqDiff, Nat.zero_add, ne_eq, true_and, and_true, and_self, false_implies, implies_true, List.nil_append, List.cons_append, Option.some.injEq, List.drop_zero, Bool.false_eq_true, hN, Option.isSome_none, w2]
        refine ⟨j + 1, id, by simp only []; omega, by simp only []; omega, ?_⟩
        have hgs2 : grC l X Y (j + 1) = M := by rw [hgs, ← hM, ← hR]
        simp only [hgs2]
        exact by simp [SLe, SLe0, convTm, convHp, convB, conv, conv0, lkT, lkH, clean]
    · have hje : j = X.length - 1 := by simp at h2; omega
      subst hje
      rw [hG] at hcel
      simp only [V_seq, V_ret, V_exit, V_region, W_nil, W_cons, effOp2, KN_seq, KXr_nil, KXe_nil, KXe_seq, KXe_block, KXe_back, QE, effOp, effPure, pureV, strip, lkT, lkH, ISt.app, opI, gO, gB, allB, gval, wrapG, dstOK, setD, Gives, Ideal.Fin, conv, conv0, Op.operands, reduceIte, reduceCtorEq, Nat.reduceLT, Nat.reduceEqDiff, Nat.zero_add, ne_eq, true_and, and_true, and_self, false_implies, implies_true, List.nil_append, List.cons_append, Option.some.injEq, List.drop_zero, Bool.false_eq_true, hN, Option.isSome_none, hcel]
      exact ⟨_, _, rfl, by rw [eG]; exact Nat.le_refl _, (take_encC5s G).symm⟩
def sp_impl_cells : PSpec := ⟨fun xs => match xs with | [.sl 4 les] => isQs les ∧ ((fun (l : List Qd) => l.length ≤ 12) (toQs les)) | _ => False, fun xs => match xs with | [.sl _ les] => (fun (l : List Qd) => .sl 5 (encC5s (celP l))) (toQs les) | _ => .junk, false⟩
theorem gk_impl_cells : ∀ args, sp_impl_cells.pre args → ICall Try.prog 80 args (sp_impl_cells.val args) := by
  intro args h
  unfold sp_impl_cells at h ⊢; simp only at h ⊢; split at h
  · obtain ⟨h0, h1⟩ := h
    obtain ⟨l0, rfl⟩ := isQ_ex h0
    simp only [toQs_enc] at *
    exact c_impl_cells _ h1
  · exact h.elim
theorem en_impl_cells : Enters Try.prog 80 := enters_of Try.func80 (by kernel_rfl) rfl

end Go.Proofs.Ytlifmigihfancaa
