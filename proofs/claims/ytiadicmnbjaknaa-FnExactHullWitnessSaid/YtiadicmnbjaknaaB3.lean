/- Contracts: copies of points are sorted. -/
import Derived.Test.YtiadicmnbjaknaaB2
import Derived.Test.YtiadicmnbjaknaaCc
import Derived.Test.YtiadicmnbjaknaaLay
set_option linter.unusedVariables false
set_option linter.unusedSimpArgs false
namespace Go.Proofs.Ytiadicmnbjaknaa
open Go Go.Ideal Go.Pl Go.Sort

/-- A point as a value of the program's. -/
def valP (p : Pt) : Value := .agg #[.int .i64 p.1, .int .i64 p.2]
theorem encP_ok : Enc 2 encP valP := ⟨fun c x v => by simp only [encP, RepV, RepL, valP]; constructor
                                                      · rintro ⟨vs, rfl, _, _, rfl, rfl, _, _, rfl, rfl, rfl⟩; rfl
                                                      · rintro rfl; exact ⟨_, rfl, _, _, rfl, rfl, _, _, rfl, rfl, rfl⟩,
  fun x => by refine ⟨rfl, ?_, rfl, by decide⟩; intro u hu; simp [valP, Value.cells] at hu; rcases hu with rfl | rfl <;> rfl,
  fun x id => by simp [encP, IV.ment, IV.mentL]⟩
theorem ltOf_cmpP (p q : Pt) : Proofs.ltOf cmpP p q = ltP p q := cmpP_neg p q
theorem swoP : SWO (Proofs.ltOf cmpP) where
  irrefl x := by rw [ltOf_cmpP, ltP_irrefl]
  trans x y z h1 h2 := by rw [ltOf_cmpP] at *; exact ltP_trans h1 h2
  ntrans x y z h1 h2 := by
    rw [ltOf_cmpP] at *
    have := leP_trans z y x (by simp [leP, h2]) (by simp [leP, h1])
    simpa [leP] using this
theorem sort_point : SortC Try.prog 45 2 valP cmpP :=
  sortC_many Try.sortP (by decide) (tabOK 38 rfl).agg (tabOK 38 rfl).size valP encP_ok.ok cmpP swoP (fun x y h1 h2 => by rw [ltOf_cmpP] at h1 h2; exact ltP_total h1 h2)
theorem sorted_leP (l : List Pt) : l.mergeSort (fun x y => !Proofs.ltOf cmpP y x) = l.mergeSort leP := by
  congr 1
  funext x y
  rw [ltOf_cmpP]; rfl

def g_slices_SortFunc_impl_Point_impl_Point : List (Nat × PSpec) := []
theorem gok_slices_SortFunc_impl_Point_impl_Point : GOK Try.prog g_slices_SortFunc_impl_Point_impl_Point := gok0
def h_slices_SortFunc_impl_Point_impl_Point : List (Nat × HSpec) := []
theorem hok_slices_SortFunc_impl_Point_impl_Point : HOK Try.prog h_slices_SortFunc_impl_Point_impl_Point := hok0
theorem c_slices_SortFunc_impl_Point_impl_Point (l : List Pt) (off : Nat) (n : Nat) (full : Bool) (hn : off + n ≤ l.length) (hsz : l.length ≤ 1000000) : HCall Try.prog 45 [.ref 1000 off n full, .clo 46 []] (sm ([(1000, .arr 2 38 (encPs l))])) (.tup []) (sm ([(1000, .arr 2 38 (encPs (l.take off ++ ((l.drop off).take n).mergeSort leP ++ l.drop (off + n))))])) := by
  have := sort_hcall sort_point encP_ok (by decide) en_impl_Point_compare (caps := []) rfl (fun x y => c_impl_Point_compare x y) l off n full hn (by omega) 38
  rw [sorted_leP] at this
  exact this
def hs_slices_SortFunc_impl_Point_impl_Point : HSpec := ⟨[false, false], fun xs hp => match xs, hp with | [.ref 1000 off n full, .clo g []], [(1000, .arr 2 ty es)] => (isPs es) ∧ (ty = 38) ∧ (g = 46) ∧ ((fun (l : List Pt) (off : Nat) (n : Nat) (full : Bool) => off + n ≤ l.length) (toPs es) off n full) ∧ ((fun (l : List Pt) (off : Nat) (n : Nat) (full : Bool) => l.length ≤ 1000000) (toPs es) off n full) | _, _ => False, fun xs hp => match xs, hp with | [.ref 1000 off n full, .clo g []], [(1000, .arr 2 ty es)] => (fun (l : List Pt) (off : Nat) (n : Nat) (full : Bool) => (.tup [] : IV)) (toPs es) off n full | _, _ => .junk, fun xs hp => match xs, hp with | [.ref 1000 off n full, .clo g []], [(1000, .arr 2 ty es)] => (fun (l : List Pt) (off : Nat) (n : Nat) (full : Bool) => ([(1000, .arr 2 38 (encPs (l.take off ++ ((l.drop off).take n).mergeSort leP ++ l.drop (off + n))))] : List (Nat × IBlk))) (toPs es) off n full | _, _ => []⟩
theorem hk_slices_SortFunc_impl_Point_impl_Point : ∀ args hp, hs_slices_SortFunc_impl_Point_impl_Point.pre args hp → HCall Try.prog 45 args (sm hp) (hs_slices_SortFunc_impl_Point_impl_Point.val args hp) (sm (hs_slices_SortFunc_impl_Point_impl_Point.hval args hp)) := by
  intro args hp h
  unfold hs_slices_SortFunc_impl_Point_impl_Point at h ⊢; simp only at h ⊢; split at h
  · obtain ⟨h1, rfl, rfl, h2, h3⟩ := h; obtain ⟨l, rfl⟩ := isP_ex h1; rw [toPs_enc] at *; exact c_slices_SortFunc_impl_Point_impl_Point l _ _ _ h2 h3
  · exact h.elim
theorem en_slices_SortFunc_impl_Point_impl_Point : Enters Try.prog 45 := enters_of Try.func45 (by kernel_rfl) rfl


def g_slices_Clone_impl_Point_impl_Point : List (Nat × PSpec) := []
theorem gok_slices_Clone_impl_Point_impl_Point : GOK Try.prog g_slices_Clone_impl_Point_impl_Point := gok0
def h_slices_Clone_impl_Point_impl_Point : List (Nat × HSpec) := []
theorem hok_slices_Clone_impl_Point_impl_Point : HOK Try.prog h_slices_Clone_impl_Point_impl_Point := hok0
theorem c_slices_Clone_impl_Point_impl_Point (l : List Pt) (hsz : l.length ≤ 1000000) : HCall Try.prog 44 [.sl 2 (encPs l)] (sm ([])) (bif l.isEmpty then .sl 2 [] else .ref 0 0 l.length true) (sm (bif l.isEmpty then [] else [(0, .arr 2 38 (encPs l))])) := by
  refine hcall_V (G := g_slices_Clone_impl_Point_impl_Point) (H := []) [] tabOK mixed gok_slices_Clone_impl_Point_impl_Point hok_slices_Clone_impl_Point_impl_Point Try.func44 rfl Try.ntmps44 Try.results44 rfl (by kernel_rfl) fun F hN hlen => ?_
  simp only [sm]
  cases l with
  | nil =>
    simp only [List.isEmpty_nil, cond_true, encPs_nil]
    simp only [V_seq, V_skip, V_ret, V_region, V_cond, brW_any, W_nil, W_cons, effOp2, KN_seq, KXr_nil, KXr_seq, QE, asB, effOp, effPure, effNew, effBuildSlice, effFrz, frz, tmpsOf, effAppend, effZeros, skipE, pureV, srcV, refId, binV, ofC, strip, lkT, lkH, ISt.app, opI, gO, gB, allB, gval, wrapG, dstOK, setD, mentTm, mentHp, IV.ment, partsL, eltsI, enumT, conv, conv0, Op.operands, reduceIte, reduceCtorEq, cond_true, Bool.or_false, Nat.reduceMul, Nat.reduceLT, Nat.reduceLeDiff, Nat.reduceEqDiff, Nat.reduceBEq, Nat.add_zero, ne_eq, not_false_eq_true, true_and, and_true, and_self, implies_true, List.map_nil, List.nil_append, List.cons_append, List.append_nil, Option.some.injEq, List.length_nil, List.take_zero, List.take_nil, List.drop_zero, tab26, tab38, hN, FinH, resA, resV, SLe, SLe0, convTm, convHp, sm, List.isEmpty_nil]
    exact ⟨⟨id, by simp⟩, id, by simp⟩
  | cons x l =>
    simp only [List.isEmpty_cons, cond_false]
    simp only [V_seq, V_skip, V_ret, V_region, V_cond, brW_false, W_nil, W_cons, effOp2, KN_seq, KXr_nil, QE, asB, effOp, effPure, effNew, effBuildSlice, effFrz, frz, tmpsOf, effAppend, effZeros, Option.isSome_some, skipE, pureV, srcV, refId, binV, ofC, strip, lkT, lkH, ISt.app, opI, gO, gB, allB, gval, wrapG, dstOK, setD, mentTm, mentHp, IV.ment, partsL, eltsI, enumT, conv, conv0, Op.operands, reduceIte, reduceCtorEq, cond_true, cond_false, Bool.or_false, Nat.reduceMul, Nat.reduceLT, Nat.reduceLeDiff, Nat.reduceEqDiff, Nat.reduceBEq, Nat.zero_add, ne_eq, not_false_eq_true, true_and, and_true, and_self, implies_true, List.map_cons, List.map_nil, List.nil_append, List.cons_append, List.append_nil, List.length_cons, List.length_nil, List.take_nil, tab26, tab38, hN, FinH, resA, resV, SLe, SLe0, convTm, convHp, convB, sm, isEmpty_encPs, List.isEmpty_cons]
    refine ⟨by rw [len_encPs]; simp only [List.length_cons] at hsz ⊢; omega, fun i => if i = 0 then 7 else i, ?_⟩
    simp [len_encPs]
    exact ⟨(List.take_of_length_le (by rw [len_encPs]; simp)).symm, fun id h1 h2 h3 => by omega⟩
def hs_slices_Clone_impl_Point_impl_Point : HSpec := ⟨[true], fun xs hp => match xs, hp with | [.sl 2 es], [] => (isPs es) ∧ ((fun (l : List Pt) => l.length ≤ 1000000) (toPs es)) | _, _ => False, fun xs hp => match xs, hp with | [.sl 2 es], [] => (fun (l : List Pt) => (bif l.isEmpty then .sl 2 [] else .ref 0 0 l.length true : IV)) (toPs es) | _, _ => .junk, fun xs hp => match xs, hp with | [.sl 2 es], [] => (fun (l : List Pt) => (bif l.isEmpty then [] else [(0, .arr 2 38 (encPs l))] : List (Nat × IBlk))) (toPs es) | _, _ => []⟩
theorem hk_slices_Clone_impl_Point_impl_Point : ∀ args hp, hs_slices_Clone_impl_Point_impl_Point.pre args hp → HCall Try.prog 44 args (sm hp) (hs_slices_Clone_impl_Point_impl_Point.val args hp) (sm (hs_slices_Clone_impl_Point_impl_Point.hval args hp)) := by
  intro args hp h
  unfold hs_slices_Clone_impl_Point_impl_Point at h ⊢; simp only at h ⊢; split at h
  · obtain ⟨h1, h2⟩ := h; obtain ⟨l, rfl⟩ := isP_ex h1; rw [toPs_enc] at *; exact c_slices_Clone_impl_Point_impl_Point l h2
  · exact h.elim
theorem en_slices_Clone_impl_Point_impl_Point : Enters Try.prog 44 := enters_of Try.func44 (by kernel_rfl) rfl


def g_slices_Clip_impl_Point_impl_Point : List (Nat × PSpec) := []
theorem gok_slices_Clip_impl_Point_impl_Point : GOK Try.prog g_slices_Clip_impl_Point_impl_Point := gok0
def h_slices_Clip_impl_Point_impl_Point : List (Nat × HSpec) := []
theorem hok_slices_Clip_impl_Point_impl_Point : HOK Try.prog h_slices_Clip_impl_Point_impl_Point := hok0
theorem c_slices_Clip_impl_Point_impl_Point (l : List Pt) (n : Nat) (full : Bool) (hn : n ≤ l.length) : HCall Try.prog 33 [.ref 1000 0 n full] (sm ([(1000, .arr 2 38 (encPs l))])) (.ref 1000 0 n false) (sm ([(1000, .arr 2 38 (encPs l))])) := by
  refine hcall_V (G := g_slices_Clip_impl_Point_impl_Point) (H := []) [] tabOK mixed gok_slices_Clip_impl_Point_impl_Point hok_slices_Clip_impl_Point_impl_Point Try.func33 rfl Try.ntmps33 Try.results33 rfl (by kernel_rfl) fun F hN hlen => ?_
  simp only [sm]
  simp only [V_seq, V_ret, V_region, W_nil, W_cons, effOp2, KN_seq, KXr_nil, QE, effOp, effPure, Option.isSome_some, pureV, sliceV, lenV, ofC, strip, lkT, lkH, ISt.app, opI, gO, gB, allB, gval, wrapG, dstOK, setD, enumT, conv, conv0, Op.operands, Call.operands, List.append_toArray, Array.append_empty, Option.toArray_none, Option.toArray_some, reduceIte, reduceCtorEq, Nat.reduceLT, Nat.reduceEqDiff, ne_eq, not_false_eq_true, true_and, and_true, and_self, false_implies, implies_true, forall_const, List.map_cons, List.map_nil, List.nil_append, List.cons_append, Option.map_some, Option.map_none, Bool.false_eq_true, tab26, tab38, hN, Int.toNat_natCast, FinH, resA, resV, SLe, SLe0, convTm, convHp, convB]
  exact ⟨⟨by omega, by omega⟩, fun i => i, by simp, fun _ _ _ => rfl⟩
def hs_slices_Clip_impl_Point_impl_Point : HSpec := ⟨[false], fun xs hp => match xs, hp with | [.ref 1000 0 n full], [(1000, .arr 2 ty es)] => (isPs es) ∧ (ty = 38) ∧ ((fun (l : List Pt) (n : Nat) (full : Bool) => n ≤ l.length) (toPs es) n full) | _, _ => False, fun xs hp => match xs, hp with | [.ref 1000 0 n full], [(1000, .arr 2 ty es)] => (fun (l : List Pt) (n : Nat) (full : Bool) => (.ref 1000 0 n false : IV)) (toPs es) n full | _, _ => .junk, fun xs hp => match xs, hp with | [.ref 1000 0 n full], [(1000, .arr 2 ty es)] => (fun (l : List Pt) (n : Nat) (full : Bool) => ([(1000, .arr 2 38 (encPs l))] : List (Nat × IBlk))) (toPs es) n full | _, _ => []⟩
theorem hk_slices_Clip_impl_Point_impl_Point : ∀ args hp, hs_slices_Clip_impl_Point_impl_Point.pre args hp → HCall Try.prog 33 args (sm hp) (hs_slices_Clip_impl_Point_impl_Point.val args hp) (sm (hs_slices_Clip_impl_Point_impl_Point.hval args hp)) := by
  intro args hp h
  unfold hs_slices_Clip_impl_Point_impl_Point at h ⊢; simp only at h ⊢; split at h
  · obtain ⟨h1, rfl, h2⟩ := h; obtain ⟨l, rfl⟩ := isP_ex h1; rw [toPs_enc] at *; exact c_slices_Clip_impl_Point_impl_Point l _ _ h2
  · exact h.elim
theorem en_slices_Clip_impl_Point_impl_Point : Enters Try.prog 33 := enters_of Try.func33 (by kernel_rfl) rfl


theorem cpF_step {q : Pt} {l : List Pt} {i : Nat} (hi : i < l.length) : cpF q (l.drop i) = if pAt l i == q then cpF (pAt l i) (l.drop (i + 1)) else pAt l i :: cpF (pAt l i) (l.drop (i + 1)) := by
  rw [drop_eq_g (d := (0, 0)) hi, cpF]
theorem compactP_at {l : List Pt} (h : 0 < l.length) : compactP l = l.take 1 ++ cpF (pAt l 0) (l.drop 1) := by
  cases l with
  | nil => simp at h
  | cons x l => simp [compactP]
theorem cpF_len (q : Pt) (l : List Pt) : (cpF q l).length ≤ l.length := by
  induction l generalizing q with
  | nil => simp [cpF]
  | cons x l ih =>
    simp only [cpF]
    split
    · have := ih x; simp; omega
    · have := ih x; simp; omega
theorem compactP_len (l : List Pt) : (compactP l).length ≤ l.length := by
  cases l with
  | nil => simp [compactP]
  | cons x l => have := cpF_len x l; simp [compactP]; omega
theorem take_set_succ {l : List Pt} {m : Nat} (hm : m < l.length) (x : Pt) : (l.set m x).take (m + 1) = l.take m ++ [x] := by
  rw [take_succ_getD (by simpa using hm), List.take_set_of_le (Nat.le_refl _)]
  simp [hm]
theorem getD_set_ne {l : List Pt} {m q : Nat} (h : m ≠ q) (x : Pt) : pAt (l.set m x) q = pAt l q := by
  simp [List.getElem?_set_ne h]

def g_slices_Compact_impl_Point_impl_Point : List (Nat × PSpec) := []
theorem gok_slices_Compact_impl_Point_impl_Point : GOK Try.prog g_slices_Compact_impl_Point_impl_Point := gok0
def h_slices_Compact_impl_Point_impl_Point : List (Nat × HSpec) := []
theorem hok_slices_Compact_impl_Point_impl_Point : HOK Try.prog h_slices_Compact_impl_Point_impl_Point := hok0
theorem c_slices_Compact_impl_Point_impl_Point (l : List Pt) (hsz : l.length ≤ 1000000) : HCall Try.prog 47 [.ref 1000 0 l.length true] (sm ([(1000, .arr 2 38 (encPs l))])) (.ref 1000 0 (compactP l).length true) (sm ([(1000, .arr 2 38 (encPs (compactP l)))])) := by
  refine hcall_V (G := g_slices_Compact_impl_Point_impl_Point) (H := []) [] tabOK mixed gok_slices_Compact_impl_Point_impl_Point hok_slices_Compact_impl_Point_impl_Point Try.func47 rfl Try.ntmps47 Try.results47 rfl (by kernel_rfl) fun F hN hlen => ?_
  simp only [sm]
  have el := len_encPs l
  have hl : l.length ≤ maxLen := by rw [maxLen_eq]; omega
  have hx : ∃ k ty es, IBlk.arr 2 38 (encPs l) = IBlk.arr k ty es := ⟨_, _, _, rfl⟩
  simp only [V_seq, V_region, V_cond, W_nil, W_cons, effOp2, KN_seq, asB, effOp, effPure, pureV, binV, lenV, ofC, strip, lkT, ISt.app, opI, gO, gB, allB, gval, wrapG, dstOK, setD, enumT, Op.operands, Call.operands, List.append_toArray, reduceIte, reduceCtorEq, Nat.reduceLT, Nat.reduceEqDiff, ne_eq, not_false_eq_true, true_and, and_self, implies_true, List.nil_append, List.cons_append, tab26, hN]
  refine brW_some (fun h => ?_) (fun h => ?_)
  · have hc : compactP l = l := by
      have : l.length < 2 := by simp at h; omega
      match l, this with
      | [], _ => rfl
      | [x], _ => rfl
    simp only [V_seq, V_ret, V_region, W_nil, W_cons, effOp2, KN_seq, KXr_nil, KXr_seq, QE, effOp, effPure, Option.isSome_some, pureV, strip, lkT, lkH, ISt.app, opI, gO, gB, allB, gval, wrapG, dstOK, setD, conv, conv0, Op.operands, reduceIte, reduceCtorEq, Nat.reduceLT, Nat.reduceEqDiff, true_and, and_true, and_self, implies_true, List.map_cons, List.map_nil, List.nil_append, List.cons_append, hN, FinH, resA, resV, SLe, SLe0, convTm, convHp, convB]
    rw [hc]
    exact ⟨fun i => i, by simp, fun _ _ _ => rfl⟩
  · have hlt : 2 ≤ l.length := by simp at h; omega
    simp only [V_seq, V_skip, V_block, V_region, W_nil, W_cons, effOp2, KN_seq, effOp, effPure, pureV, ofC, strip, ISt.app, opI, gO, gB, allB, gval, wrapG, dstOK, setD, Op.operands, Nat.reduceLT, true_and, and_self, implies_true, List.nil_append, List.cons_append, hN]
    refine V_loop (α := Nat) ⟨tabOK, mixed, gok_slices_Compact_impl_Point_impl_Point.toF F, hok_slices_Compact_impl_Point_impl_Point⟩ (by kernel_rfl) (fun i => 1 ≤ i ∧ i ≤ l.length ∧ compactP l = l.take i ++ cpF (pAt l (i - 1)) (l.drop i))
      (fun i => ⟨[(3, .num .i64 i), (0, .ref 1000 0 l.length true)], [(1000, some (.arr 2 38 (encPs l)))]⟩) (fun i => l.length - i) 1 id ⟨Nat.le_refl _, by omega, compactP_at (by omega)⟩ (by simp [SLe, SLe0, convTm, convHp, convB, conv, conv0, lkT, lkH, clean]) ?_
    rintro i ⟨h1, hi, hj⟩
    simp only [V_seq, V_region, V_cond, W_nil, W_cons, effOp2, KN_seq, asB, effOp, effPure, pureV, binV, lenV, strip, lkT, ISt.app, opI, gO, gB, allB, gval, wrapG, dstOK, setD, Op.operands, Call.operands, List.append_toArray, reduceIte, reduceCtorEq, Nat.reduceLT, Nat.reduceEqDiff, ne_eq, not_false_eq_true, true_and, and_self, implies_true, List.nil_append, List.cons_append, tab26, hN]
    refine brW_some (fun h => ?_) (fun h => ?_)
    · have hi' : i < l.length := by simpa using h
      have g1 := getD_encPs hi'
      have g2 := getD_encPs (show i - 1 < l.length by omega)
      have hw := wr_succ hi' hl
      have hw2 : IntKind.i64.wrap ((i : Int) - 1) = ((i - 1 : Nat) : Int) := by
        rw [maxLen_eq] at hl
        rw [wr (by omega) (by omega)]
        omega
      simp only [V_seq, V_skip, V_block, V_draw, V_cond, drawW, pairsOf, WD_nil, WD_cons, effOp3, KN_seq, asB, effOp, effPure, pureV, binV, partV, eltV, loadV, iaddrV, ofC, strip, lkT, lkH, ISt.app, opI, gO, gB, allB, gval, wrapG, dstOK, setD, eqL, numsOnly, Op.operands, reduceIte, reduceCtorEq, Bool.and_true, Nat.reduceAdd, Nat.reduceLT, Nat.reduceLeDiff, Nat.reduceEqDiff, Nat.zero_add, ne_eq, not_false_eq_true, true_and, and_true, and_false, and_self, implies_true, forall_const, List.nil_append, List.cons_append, List.getD_cons_zero, List.length_cons, List.length_nil, List.take_succ_cons, List.take_nil, List.drop_zero, tab26, tab38, hN, Int.toNat_natCast, el, Int.toNat_natCast, g1, g2, hw2, eqP, Nat.zero_add]
      repeat refine And.intro (by omega) ?_
      refine brW_some (fun h => ?_) (fun h => ?_)
      · simp only [V_seq, V_block, V_region, W_nil, W_cons, effOp2, KN_seq, effOp, effPure, pureV, sliceV, ofC, strip, lkT, lkH, ISt.app, opI, gO, gB, allB, gval, wrapG, dstOK, setD, Op.operands, List.append_toArray, Array.append_empty, Option.toArray_none, Option.toArray_some, reduceIte, reduceCtorEq, Nat.reduceLT, Nat.reduceEqDiff, Nat.zero_add, ne_eq, not_false_eq_true, true_and, and_true, and_self, implies_true, forall_const, List.nil_append, List.cons_append, Option.map_some, Option.map_none, tab26, tab38, hN, Int.toNat_natCast, Int.toNat_natCast, Nat.zero_add]
        refine ⟨⟨by omega, by omega⟩, ?_⟩
        refine V_loop (α := Nat × Nat × List Pt) ⟨tabOK, mixed, gok_slices_Compact_impl_Point_impl_Point.toF F, hok_slices_Compact_impl_Point_impl_Point⟩ (by kernel_rfl)
          (fun b => 1 ≤ b.1 ∧ i + b.1 ≤ l.length ∧ b.2.2.length = l.length ∧ b.2.1 + 1 ≤ i + b.1 ∧ b.2.2.take b.2.1 ++ cpF (pAt l (i + b.1 - 1)) (l.drop (i + b.1)) = compactP l ∧ ∀ q, i + b.1 - 1 ≤ q → q < l.length → pAt b.2.2 q = pAt l q)
          (fun b => ⟨[(5, .num .i64 b.1), (4, .ref 1000 i (l.length - i) true), (3, .num .i64 b.2.1), (0, .ref 1000 0 l.length true)], [(1000, some (.arr 2 38 (encPs b.2.2)))]⟩) (fun b => l.length - i - b.1) (1, i, l) id
          ⟨Nat.le_refl _, by simp only []; omega, rfl, by simp only []; omega, ?_, fun q _ _ => rfl⟩ (by simp [SLe, SLe0, convTm, convHp, convB, conv, conv0, lkT, lkH, clean]) ?_
        · rw [hj, cpF_step hi', h]; rfl
        · rintro ⟨j, m, A⟩ ⟨b1, b2, b3, b4, b5, b6⟩
          simp only at b1 b2 b3 b4 b5 b6
          have hx : ∃ k ty es, IBlk.arr 2 38 (encPs A) = IBlk.arr k ty es := ⟨_, _, _, rfl⟩
          simp only [V_seq, V_region, V_cond, W_nil, W_cons, effOp2, KN_seq, asB, effOp, effPure, pureV, binV, lenV, strip, lkT, ISt.app, opI, gO, gB, allB, gval, wrapG, dstOK, setD, Op.operands, Call.operands, List.append_toArray, reduceIte, reduceCtorEq, Nat.reduceLT, Nat.reduceEqDiff, ne_eq, not_false_eq_true, true_and, and_self, implies_true, List.nil_append, List.cons_append, tab26, hN]
          refine brW_some (fun h2 => ?_) (fun h2 => ?_)
          · have hq : i + j < l.length := by simp at h2; omega
            have g3 := getD_encPs (show i + j < A.length by omega)
            have g4 := getD_encPs (show i + (j - 1) < A.length by omega)
            have hw3 : IntKind.i64.wrap ((j : Int) + 1) = ((j + 1 : Nat) : Int) := wr_succ (show j < l.length by omega) hl
            have hw4 : IntKind.i64.wrap ((j : Int) - 1) = ((j - 1 : Nat) : Int) := by
              rw [maxLen_eq] at hl
              rw [wr (by omega) (by omega)]
              omega
            have hw5 : IntKind.i64.wrap ((m : Int) + 1) = ((m + 1 : Nat) : Int) := wr_succ (show m < l.length by omega) hl
            simp only [V_seq, V_skip, V_block, V_draw, V_cond, drawW, pairsOf, WD_nil, WD_cons, effOp3, KN_seq, asB, effOp, effPure, pureV, binV, partV, eltV, loadV, iaddrV, ofC, strip, lkT, lkH, ISt.app, opI, gO, gB, allB, gval, wrapG, dstOK, setD, eqL, numsOnly, Op.operands, reduceIte, reduceCtorEq, Bool.and_true, Nat.reduceAdd, Nat.reduceLT, Nat.reduceLeDiff, Nat.reduceEqDiff, Nat.zero_add, ne_eq, not_false_eq_true, true_and, and_true, and_false, and_self, implies_true, forall_const, List.nil_append, List.cons_append, List.getD_cons_zero, List.length_cons, List.length_nil, List.take_succ_cons, List.take_nil, List.drop_zero, tab26, tab38, hN, Int.toNat_natCast, Int.toNat_natCast, g3, g4, hw4, eqP, Nat.zero_add]
            have eA := len_encPs A
            refine ⟨⟨by omega, by omega⟩, by omega, ⟨by omega, by omega⟩, by omega, brW_some (fun h3 => ?_) (fun h3 => ?_)⟩
            · simp only [V_seq, V_region, W_nil, W_cons, effOp2, KN_seq, KN_block, KN_back, effOp, effPure, effStore, pureV, storeV, binV, partV, eltV, loadV, iaddrV, over, solid, IV.cells, ofC, strip, lkT, lkH, ISt.app, opI, gO, gB, allB, gval, wrapG, dstOK, setD, eltI, oneI, noId', Op.operands, reduceIte, reduceCtorEq, cond_true, Bool.and_true, Bool.true_and, Nat.reduceAdd, Nat.reduceLT, Nat.reduceLeDiff, Nat.reduceEqDiff, Nat.zero_add, ne_eq, not_false_eq_true, true_and, and_true, and_false, and_self, implies_true, forall_const, List.nil_append, List.cons_append, List.all_cons, List.all_nil, List.getD_cons_zero, List.length_cons, List.length_nil, List.take_succ_cons, List.take_zero, List.take_nil, List.drop_zero, tab26, tab38, hN, Int.toNat_natCast, Int.toNat_natCast, g3, hw3, hw5, Nat.zero_add]
              have hne : (pAt l (i + j) == pAt l (i + j - 1)) = false := by
                have e1 := b6 (i + j) (by omega) hq
                have e2 := b6 (i + (j - 1)) (by omega) (by omega)
                rw [show i + (j - 1) = i + j - 1 by omega] at e2 h3
                rw [e1, e2] at h3
                simpa using h3
              have hs := cpF_step (q := pAt l (i + j - 1)) hq
              rw [hne] at hs
              refine ⟨⟨by omega, by omega⟩, by omega, ⟨by omega, by omega⟩, by omega, (j + 1, m + 1, A.set m (pAt A (i + j))), id, ⟨by simp only []; omega, by simp only []; omega, by simpa using b3, by simp only []; omega, ?_, ?_⟩, by simp only []; omega,
                by simp [SLe, SLe0, convTm, convHp, convB, conv, conv0, lkT, lkH, clean, encPs_set]⟩
              · simp only []
                rw [take_set_succ (by omega), b6 (i + j) (by omega) hq, show i + (j + 1) - 1 = i + j by omega, show i + (j + 1) = i + j + 1 by omega, ← b5, hs]
                simp
              · intro q h4 h5
                simp only [] at h4 ⊢
                rw [getD_set_ne (by omega)]
                exact b6 q (by omega) h5
            · simp only [V_skip, V_region, W_nil, W_cons, effOp2, KN_seq, KN_block, KN_back, effOp, effPure, pureV, binV, ofC, strip, lkT, ISt.app, opI, gO, gB, allB, gval, wrapG, dstOK, setD, Op.operands, reduceIte, reduceCtorEq, Nat.reduceLT, Nat.reduceEqDiff, true_and, and_self, implies_true, List.nil_append, List.cons_append, hN, hw3]
              have hne : (pAt l (i + j) == pAt l (i + j - 1)) = true := by
                have e1 := b6 (i + j) (by omega) hq
                have e2 := b6 (i + (j - 1)) (by omega) (by omega)
                rw [show i + (j - 1) = i + j - 1 by omega] at e2 h3
                rw [e1, e2] at h3
                simpa using h3
              have hs := cpF_step (q := pAt l (i + j - 1)) hq
              rw [hne] at hs
              refine ⟨(j + 1, m, A), id, ⟨by simp only []; omega, by simp only []; omega, b3, by simp only []; omega, ?_, fun q h4 h5 => b6 q (by simp only [] at h4; omega) h5⟩, by simp only []; omega, by simp [SLe, SLe0, convTm, convHp, convB, conv, conv0, lkT, lkH, clean]⟩
              simp only []
              rw [show i + (j + 1) - 1 = i + j by omega, show i + (j + 1) = i + j + 1 by omega, ← b5, hs]
              simp
          · simp only [V_seq, V_ret, V_exit, V_region, W_nil, W_cons, effOp2, KN_seq, KN_back, KXr_nil, KXr_seq, KXr_block, KXr_back, KXe_nil, KXe_seq, KXe_block, KXe_back, QE, effOp, effPure, Option.isSome_some, effClear, pureV, binV, sliceV, ofC, strip, lkT, lkH, ISt.app, opI, gO, gB, allB, gval, wrapG, dstOK, setD, zeroElt, noId', conv, conv0, Op.operands, List.append_toArray, Array.append_empty, Option.toArray_none, Option.toArray_some, reduceIte, reduceCtorEq, cond_true, Bool.and_true, Nat.reduceLT, Nat.reduceLeDiff, Nat.reduceEqDiff, Nat.zero_add, ne_eq, not_false_eq_true, true_and, and_true, and_self, implies_true, forall_const, List.map_cons, List.map_nil, List.nil_append, List.cons_append, List.all_cons, List.all_nil, Option.map_some, Option.map_none, tab26, tab38, hN, Int.toNat_natCast, FinH, resA, resV, SLe, SLe0, convTm, convHp, convB, Int.toNat_natCast, Nat.zero_add]
            have hjl : i + j = l.length := by simp at h2; omega
            have hcp : compactP l = A.take m := by rw [← b5, hjl]; simp [cpF]
            have hcl : (compactP l).length = m := by rw [hcp]; simp; omega
            refine ⟨⟨by omega, by omega⟩, by rw [len_encPs]; omega, ⟨by omega, by omega⟩, id, ?_⟩
            simp [hcl, len_encPs]
            rw [List.take_append_of_le_length (by simp [len_encPs]; omega), encPs_take, encPs_take, List.take_take, Nat.min_self, hcp]
      · simp only [V_skip, V_region, W_nil, W_cons, effOp2, KN_seq, KN_block, KN_back, effOp, effPure, pureV, binV, ofC, strip, lkT, ISt.app, opI, gO, gB, allB, gval, wrapG, dstOK, setD, Op.operands, reduceIte, reduceCtorEq, Nat.reduceLT, Nat.reduceEqDiff, true_and, and_self, implies_true, List.nil_append, List.cons_append, hN, hw]
        refine ⟨i + 1, id, ⟨by omega, by omega, ?_⟩, by simp only []; omega, by simp [SLe, SLe0, convTm, convHp, convB, conv, conv0, lkT, lkH, clean]⟩
        rw [hj, cpF_step hi', h, take_succ_getD hi']
        simp
    · have hie : i = l.length := by simp at h; omega
      subst hie
      have hc : compactP l = l := by rw [hj]; simp [cpF]
      simp only [V_seq, V_ret, V_exit, V_region, W_nil, W_cons, effOp2, KN_seq, KXr_nil, KXe_nil, KXe_seq, KXe_block, KXe_back, QE, effOp, effPure, Option.isSome_some, pureV, strip, lkT, lkH, ISt.app, opI, gO, gB, allB, gval, wrapG, dstOK, setD, conv, conv0, Op.operands, reduceIte, reduceCtorEq, Nat.reduceLT, Nat.reduceEqDiff, true_and, and_true, and_self, implies_true, List.map_cons, List.map_nil, List.nil_append, List.cons_append, hN, FinH, resA, resV, SLe, SLe0, convTm, convHp, convB]
      rw [hc]
      exact ⟨fun i => i, by simp, fun _ _ _ => rfl⟩
def hs_slices_Compact_impl_Point_impl_Point : HSpec := ⟨[false], fun xs hp => match xs, hp with | [.ref 1000 0 n true], [(1000, .arr 2 ty es)] => (isPs es) ∧ (ty = 38) ∧ (n = es.length) ∧ ((fun (l : List Pt) => l.length ≤ 1000000) (toPs es)) | _, _ => False, fun xs hp => match xs, hp with | [.ref 1000 0 n true], [(1000, .arr 2 ty es)] => (fun (l : List Pt) => (.ref 1000 0 (compactP l).length true : IV)) (toPs es) | _, _ => .junk, fun xs hp => match xs, hp with | [.ref 1000 0 n true], [(1000, .arr 2 ty es)] => (fun (l : List Pt) => ([(1000, .arr 2 38 (encPs (compactP l)))] : List (Nat × IBlk))) (toPs es) | _, _ => []⟩
theorem hk_slices_Compact_impl_Point_impl_Point : ∀ args hp, hs_slices_Compact_impl_Point_impl_Point.pre args hp → HCall Try.prog 47 args (sm hp) (hs_slices_Compact_impl_Point_impl_Point.val args hp) (sm (hs_slices_Compact_impl_Point_impl_Point.hval args hp)) := by
  intro args hp h
  unfold hs_slices_Compact_impl_Point_impl_Point at h ⊢; simp only at h ⊢; split at h
  · obtain ⟨h1, rfl, rfl, h2⟩ := h; obtain ⟨l, rfl⟩ := isP_ex h1; rw [toPs_enc] at *; rw [len_encPs]; exact c_slices_Compact_impl_Point_impl_Point l h2
  · exact h.elim
theorem en_slices_Compact_impl_Point_impl_Point : Enters Try.prog 47 := enters_of Try.func47 (by kernel_rfl) rfl


end Go.Proofs.Ytiadicmnbjaknaa
