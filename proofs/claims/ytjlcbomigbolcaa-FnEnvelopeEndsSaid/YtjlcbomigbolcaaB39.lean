/- Contracts: the program's upper envelope: a sort by a comparison that reads the graphs. -/
import Derived.Test.YtjlcbomigbolcaaB38
import Derived.Test.YtjlcbomigbolcaaPl7
set_option linter.unusedVariables false
set_option linter.unusedSimpArgs false
set_option maxHeartbeats 1600000
set_option maxRecDepth 100000
namespace Go.Proofs.Ytjlcbomigbolcaa
open Go Go.Ideal Go.Pl Go.Sort

/-! lists of indices -/
def encN (L : List Nat) : List IV := encI (L.map fun n => ((n : Nat) : Int))
def toNs (es : List IV) : List Nat := (toIs es).map Int.toNat
def isNs (es : List IV) : Prop := ∃ L, es = encN L
theorem isNs_enc (L : List Nat) : isNs (encN L) = True := by simp [isNs]; exact ⟨L, rfl⟩
theorem toNs_enc (L : List Nat) : toNs (encN L) = L := by
  rw [toNs, encN, toIs_enc, List.map_map]
  have : (Int.toNat ∘ fun n => ((n : Nat) : Int)) = id := by funext n; simp
  rw [this, List.map_id]
theorem len_encN (L : List Nat) : (encN L).length = L.length := by rw [encN, len_encI, List.length_map]
abbrev nAt (L : List Nat) (i : Nat) : Nat := L.getD i 0
theorem getD_encN {L : List Nat} {i : Nat} (h : i < L.length) : (encN L).getD i .junk = .num .i64 ((nAt L i : Nat) : Int) := by
  rw [encN, getD_encI (by simpa using h)]
  simp [nAt, List.getD, h]
theorem encN_app (L M : List Nat) : encN L ++ encN M = encN (L ++ M) := by rw [encN, encN, encN, encI_app, List.map_append]
theorem encN_one (n : Nat) : [IV.num .i64 ((n : Nat) : Int)] = encN [n] := rfl
theorem encN_nil : encN [] = [] := rfl
theorem encN_take (L : List Nat) (k : Nat) : (encN L).take k = encN (L.take k) := by rw [encN, encI_take, encN, List.map_take]
theorem encN_drop (L : List Nat) (k : Nat) : (encN L).drop k = encN (L.drop k) := by rw [encN, encI_drop, encN, List.map_drop]
theorem take_encN (L : List Nat) : (encN L).take L.length = encN L := List.take_of_length_le (by rw [len_encN]; exact Nat.le_refl _)

/-- The graphs that are highest somewhere, of the first i. -/
def topN (l : List Pt) (i : Nat) : List Nat := (List.range i).filter fun j => topB l (pA l j)
theorem topN_succ (l : List Pt) (i : Nat) : topN l (i + 1) = if topB l (pA l i) then topN l i ++ [i] else topN l i := by
  have e : List.filter (fun j => topB l (pA l j)) [i] = if topB l (pA l i) then [i] else [] := by
    simp only [List.filter_cons, List.filter_nil]
  rw [topN, List.range_succ, List.filter_append, e]
  cases h : topB l (pA l i)
  · rw [if_neg (by decide), if_neg (by decide), List.append_nil]; rfl
  · rw [if_pos rfl, if_pos rfl]; rfl
theorem topN_len (l : List Pt) (i : Nat) : (topN l i).length ≤ i := by
  have := List.length_filter_le (fun j => topB l (pA l j)) (List.range i)
  rw [List.length_range] at this; exact this
theorem topN_mem {l : List Pt} {i x : Nat} : x ∈ topN l i ↔ x < i ∧ topB l (pA l x) = true := by simp [topN]
def keyN (l : List Pt) (x : Nat) : Int := (pA l x).1
def srtN (l : List Pt) (T : List Nat) : List Nat := T.mergeSort fun x y => decide (keyN l x ≤ keyN l y)
theorem srtN_len (l : List Pt) (T : List Nat) : (srtN l T).length = T.length := List.length_mergeSort _
/-- The upper envelope. -/
def envP (l : List Pt) : List Nat := srtN l (topN l l.length)
theorem envP_len (l : List Pt) : (envP l).length ≤ l.length := by rw [envP, srtN_len]; exact topN_len l _

abbrev TopX (l : List Pt) := {x : Nat // x < l.length ∧ topB l (pA l x) = true}
def fT {l : List Pt} (x : TopX l) : IV := .num .i64 ((x.1 : Nat) : Int)
def eT {l : List Pt} (x : TopX l) : Value := .int .i64 ((x.1 : Nat) : Int)
def cfT {l : List Pt} (x y : TopX l) : Int := cmpI (keyN l x.1) (keyN l y.1)
theorem encT_ok' {l : List Pt} : Enc 1 (fT (l := l)) eT := ⟨fun c x v => by simp only [fT, RepV, eT], fun x => ⟨rfl, by simp [eT, Value.cells, Value.oneCell'], rfl, Nat.le_refl _⟩, fun x id => rfl⟩
theorem ltOf_I (x y : Int) : Proofs.ltOf cmpI x y = decide (x < y) := by
  rw [Proofs.ltOf, cmpI, Bool.eq_iff_iff, decide_eq_true_iff, decide_eq_true_iff]
  split
  · rename_i h; exact ⟨fun _ => h, fun _ => by omega⟩
  · rename_i h
    split
    · exact ⟨fun q => by omega, fun q => absurd q h⟩
    · exact ⟨fun q => by omega, fun q => absurd q h⟩
theorem swoI : SWO (Proofs.ltOf cmpI) where
  irrefl x := by rw [ltOf_I]; simp
  trans x y z h1 h2 := by rw [ltOf_I] at *; have a := of_decide_eq_true h1; have b := of_decide_eq_true h2; exact decide_eq_true (by omega)
  ntrans x y z h1 h2 := by rw [ltOf_I] at *; have a := of_decide_eq_false h1; have b := of_decide_eq_false h2; exact decide_eq_false (by omega)
theorem ltOf_T {l : List Pt} (x y : TopX l) : Proofs.ltOf cfT x y = decide (keyN l x.1 < keyN l y.1) := by
  rw [Proofs.ltOf, cfT, cmpI, Bool.eq_iff_iff, decide_eq_true_iff, decide_eq_true_iff]
  split
  · rename_i h; exact ⟨fun _ => h, fun _ => by omega⟩
  · rename_i h
    split
    · exact ⟨fun q => by omega, fun q => absurd q h⟩
    · exact ⟨fun q => by omega, fun q => absurd q h⟩
theorem swoT {l : List Pt} : SWO (Proofs.ltOf (cfT (l := l))) where
  irrefl x := by rw [ltOf_T]; simp
  trans x y z h1 h2 := by rw [ltOf_T] at *; have a := of_decide_eq_true h1; have b := of_decide_eq_true h2; exact decide_eq_true (by omega)
  ntrans x y z h1 h2 := by rw [ltOf_T] at *; have a := of_decide_eq_false h1; have b := of_decide_eq_false h2; exact decide_eq_false (by omega)
/-- Two that are highest somewhere have different slopes. -/
theorem top_inj {l : List Pt} (hn : l.Nodup) {x y : Nat} (hx : x < l.length ∧ topB l (pA l x) = true) (hy : y < l.length ∧ topB l (pA l y) = true) (h : keyN l x = keyN l y) : x = y := by
  have t1 := (top_iff (pA_mem hx.1)).1 hx.2
  have t2 := (top_iff (pA_mem hy.1)).1 hy.2
  have a := t1.2.1 _ (pA_mem hy.1) h.symm
  have b := t2.2.1 _ (pA_mem hx.1) h
  exact pA_inj hn hx.1 hy.1 (Prod.ext h (by omega))
theorem sort_T {l : List Pt} [Inhabited (TopX l)] (hn : l.Nodup) : SortC Try.prog 108 1 (eT (l := l)) cfT :=
  sortC_one Try.sortI eT (fun x => rfl) cfT swoT (fun x y h1 h2 => by
    rw [ltOf_T] at h1 h2
    have a := of_decide_eq_false h1
    have b := of_decide_eq_false h2
    exact Subtype.ext (top_inj hn x.2 y.2 (by omega)))
def g_impl_UpperEnvelope_1 : List (Nat × PSpec) := [(110, sp_cmp_Compare_int)]
theorem gok_impl_UpperEnvelope_1 : GOK Try.prog g_impl_UpperEnvelope_1 := gok_cons gk_cmp_Compare_int en_cmp_Compare_int (gok0)
theorem lk_impl_UpperEnvelope_1_cmp_Compare_int : lkG g_impl_UpperEnvelope_1 110 = sp_cmp_Compare_int := rfl
def h_impl_UpperEnvelope_1 : List (Nat × HSpec) := []
theorem hok_impl_UpperEnvelope_1 : HOK Try.prog h_impl_UpperEnvelope_1 := hok0
theorem c_impl_UpperEnvelope_1 (i : Int) (k : Int) (l : List Pt) (hi : 0 ≤ i ∧ i < l.length) (hk : 0 ≤ k ∧ k < l.length) : ICall Try.prog 109 [.num .i64 i, .num .i64 k, .eptr 1 (.sl 2 (encPs l)) 0] (.num .i64 (cmpI (pAt l i.toNat).1 (pAt l k.toNat).1)) := by
  refine icall_V (G := g_impl_UpperEnvelope_1) (H := []) [(1, [(0, 10), (1, 10), (2, 10), (3, 10), (5, 10), (6, 10), (7, 10), (8, 10)])] tabOK mixed gok_impl_UpperEnvelope_1 hok_impl_UpperEnvelope_1 Try.func109 rfl Try.ntmps109 Try.results109 rfl (by kernel_rfl) fun F hN hlen => ?_
  have el := len_encPs l
  obtain ⟨a, rfl⟩ : ∃ a : Nat, i = a := ⟨i.toNat, by omega⟩
  obtain ⟨b, rfl⟩ : ∃ b : Nat, k = b := ⟨k.toNat, by omega⟩
  have g1 := getD_encPs (l := l) (i := a) (by omega)
  have g2 := getD_encPs (l := l) (i := b) (by omega)
  simp only [V_seq, V_ret, V_region, V_draw, drawW, WS_nil, pairsOf, W_nil, W_cons, effOp2, WI_nil, WI_cons, KN_seq, KXr_nil, QE, dynOK, indB, farB, freshB, heapy, effOp, effPure, effCall, giveUp, hasAll, pureV, partV, eltV, loadV, faddrV, iaddrV, ofC, strip, lkT, lkH, ISt.app, opI, gO, gB, allB, gval, wrapG, dstOK, setD, mentTm, mentHp, IV.ment, lendV, lendP, lent, lentP, idsV, idsL, lkHS, flat, clean, callArgs, callFn, allLent, enumT, Gives, Ideal.Fin, conv, conv0, Op.operands, Call.operands, List.append_toArray, reduceIte, reduceCtorEq, cond_true, cond_false, Bool.or_false, Bool.and_true, Bool.and_eq_true, Bool.not_true, Bool.not_false, Nat.reduceAdd, Nat.reduceLT, Nat.reduceLeDiff, Nat.reduceEqDiff, Nat.reduceBEq, Nat.add_zero, Nat.zero_add, ne_eq, not_false_eq_true, true_and, and_true, and_false, and_self, implies_true, forall_const, List.map_cons, List.map_nil, List.nil_append, List.cons_append, List.append_nil, List.getD_cons_zero, List.getD_cons_succ, List.length_cons, List.length_nil, List.take_succ_cons, List.take_zero, List.drop_zero, ex_clo, or_self, tab3, tab57, tab66, hN, Int.toNat_natCast, lk_impl_UpperEnvelope_1_cmp_Compare_int, sp_cmp_Compare_int, el, g1, g2]
  repeat refine And.intro (by first | omega | (simp; done) | (simp; omega)) ?_
  omega
def sp_impl_UpperEnvelope_1 : PSpec := ⟨fun xs => match xs with | [.num .i64 i, .num .i64 k, .eptr 1 (.sl 2 les) 0] => isPs les ∧ ((fun (i : Int) (k : Int) (l : List Pt) => 0 ≤ i ∧ i < l.length) i k (toPs les)) ∧ ((fun (i : Int) (k : Int) (l : List Pt) => 0 ≤ k ∧ k < l.length) i k (toPs les)) | _ => False, fun xs => match xs with | [.num _ i, .num _ k, .eptr 1 (.sl 2 les) 0] => (fun (i : Int) (k : Int) (l : List Pt) => .num .i64 (cmpI (pAt l i.toNat).1 (pAt l k.toNat).1)) i k (toPs les) | _ => .junk, false⟩
theorem gk_impl_UpperEnvelope_1 : ∀ args, sp_impl_UpperEnvelope_1.pre args → ICall Try.prog 109 args (sp_impl_UpperEnvelope_1.val args) := by
  intro args h
  unfold sp_impl_UpperEnvelope_1 at h ⊢; simp only at h ⊢; split at h
  · obtain ⟨h0, h1, h2⟩ := h
    obtain ⟨l0, rfl⟩ := isP_ex h0
    simp only [toPs_enc] at *
    exact c_impl_UpperEnvelope_1 _ _ _ h1 h2
  · exact h.elim
theorem en_impl_UpperEnvelope_1 : Enters Try.prog 109 := enters_of Try.func109 (by kernel_rfl) rfl

theorem srt_map {l : List Pt} (L : List (TopX l)) : (L.mergeSort fun x y => !Proofs.ltOf cfT y x).map fT = encN (srtN l (L.map (·.1))) := by
  have h : (L.mergeSort fun x y => !Proofs.ltOf cfT y x).map (·.1) = srtN l (L.map (·.1)) := by
    refine List.map_mergeSort fun a _ b _ => ?_
    rw [ltOf_T, Bool.eq_iff_iff]
    simp only [Bool.not_eq_true', decide_eq_false_iff_not, decide_eq_true_eq]
    omega
  rw [← h, encN, encI, List.map_map, List.map_map]; rfl
theorem sortT_call (l : List Pt) (hn : l.Nodup) (T : List Nat) (hT : ∀ x ∈ T, x < l.length ∧ topB l (pA l x) = true) (full : Bool) (hsz : T.length ≤ 1000000) :
    HCall Try.prog 108 [.ref 1000 0 T.length full, .clo 109 [.ptr 1001 0]] (sm [(1000, .arr 1 3 (encN T)), (1001, .box 57 [.sl 2 (encPs l)])]) (.tup []) (sm [(1000, .arr 1 3 (encN (srtN l T))), (1001, .box 57 [.sl 2 (encPs l)])]) := by
  cases T with
  | nil =>
    have e : srtN l [] = [] := by simp [srtN]
    rw [e]
    haveI : Inhabited Int := ⟨0⟩
    exact sort_nothing (sortC_one Try.sortI (fun x : Int => Value.int .i64 x) (fun x => rfl) cmpI swoI (fun x y h1 h2 => by
      rw [ltOf_I] at h1 h2
      have a := of_decide_eq_false h1
      have b := of_decide_eq_false h2
      omega)).1 1000 0 full _ _
  | cons t T =>
    haveI : Inhabited (TopX l) := ⟨⟨t, hT t (by simp)⟩⟩
    obtain ⟨L, hL⟩ : ∃ L : List (TopX l), L.map (·.1) = t :: T := ⟨(t :: T).attach.map fun x => ⟨x.1, hT x.1 x.2⟩, by rw [List.map_map]; exact List.attach_map_subtype_val _⟩
    have hlen : L.length = (t :: T).length := by rw [← hL, List.length_map]
    have hrow : L.map fT = encN (t :: T) := by rw [← hL, encN, encI, List.map_map, List.map_map]; rfl
    have h := sort_hcall (sort_T hn) encT_ok' (by decide) en_impl_UpperEnvelope_1 (caps := bxE [(1001, 57, .sl 2 (encPs l))]) rfl (fun x y => by
      have := c_impl_UpperEnvelope_1 ((x.1 : Nat) : Int) ((y.1 : Nat) : Int) l ⟨by omega, by have := x.2.1; omega⟩ ⟨by omega, by have := y.2.1; omega⟩
      rw [Int.toNat_natCast, Int.toNat_natCast] at this
      exact this) L 0 L.length full (by omega) (by omega) 3
    have e : L.take 0 ++ ((L.drop 0).take L.length).mergeSort (fun x y => !Proofs.ltOf cfT y x) ++ L.drop (0 + L.length) = L.mergeSort (fun x y => !Proofs.ltOf cfT y x) := by simp
    rw [e, srt_map, hL, hrow, hlen] at h
    have hfl : ∀ M : List Nat, noSlL (encN M) = true := fun M => by
      induction M with
      | nil => rfl
      | cons x M ih => exact ih
    exact sort_lend [(1001, 57, .sl 2 (encPs l))] h (by simp) (fun b hb => by simp at hb; subst hb; exact ⟨(by decide : 1000 < 1001), (by decide : 1001 < 2000), rfl⟩) (hfl _) (hfl _)
def g_slices_SortFunc_int_int : List (Nat × PSpec) := []
theorem gok_slices_SortFunc_int_int : GOK Try.prog g_slices_SortFunc_int_int := gok0
def h_slices_SortFunc_int_int : List (Nat × HSpec) := []
theorem hok_slices_SortFunc_int_int : HOK Try.prog h_slices_SortFunc_int_int := hok0
theorem c_slices_SortFunc_int_int (l : List Pt) (T : List Nat) (full : Bool) (hn : l.Nodup) (hT : ∀ x ∈ T, x < l.length ∧ topB l (pA l x) = true) (hsz : T.length ≤ 1000000) : HCall Try.prog 108 [.ref 1000 0 T.length full, .clo 109 [.ptr 1001 0]] (sm ([(1000, .arr 1 3 (encN T)), (1001, .box 57 [.sl 2 (encPs l)])])) (.tup []) (sm ([(1000, .arr 1 3 (encN (srtN l T))), (1001, .box 57 [.sl 2 (encPs l)])])) := by
  exact sortT_call l hn T hT full hsz
def hs_slices_SortFunc_int_int : HSpec := ⟨[false, false], fun xs hp => match xs, hp with | [.ref 1000 0 n full, .clo g [.ptr 1001 0]], [(1000, .arr 1 ty es), (1001, .box ty2 [.sl 2 gs])] => (isNs es) ∧ (isPs gs) ∧ (ty = 3) ∧ (ty2 = 57) ∧ (g = 109) ∧ (n = es.length) ∧ ((fun (l : List Pt) (T : List Nat) (full : Bool) => l.Nodup) (toPs gs) (toNs es) full) ∧ ((fun (l : List Pt) (T : List Nat) (full : Bool) => ∀ x ∈ T, x < l.length ∧ topB l (pA l x) = true) (toPs gs) (toNs es) full) ∧ ((fun (l : List Pt) (T : List Nat) (full : Bool) => T.length ≤ 1000000) (toPs gs) (toNs es) full) | _, _ => False, fun xs hp => match xs, hp with | [.ref 1000 0 n full, .clo g [.ptr 1001 0]], [(1000, .arr 1 ty es), (1001, .box ty2 [.sl 2 gs])] => (fun (l : List Pt) (T : List Nat) (full : Bool) => (.tup [] : IV)) (toPs gs) (toNs es) full | _, _ => .junk, fun xs hp => match xs, hp with | [.ref 1000 0 n full, .clo g [.ptr 1001 0]], [(1000, .arr 1 ty es), (1001, .box ty2 [.sl 2 gs])] => (fun (l : List Pt) (T : List Nat) (full : Bool) => ([(1000, .arr 1 3 (encN (srtN l T))), (1001, .box 57 [.sl 2 (encPs l)])] : List (Nat × IBlk))) (toPs gs) (toNs es) full | _, _ => []⟩
theorem hk_slices_SortFunc_int_int : ∀ args hp, hs_slices_SortFunc_int_int.pre args hp → HCall Try.prog 108 args (sm hp) (hs_slices_SortFunc_int_int.val args hp) (sm (hs_slices_SortFunc_int_int.hval args hp)) := by
  intro args hp h
  unfold hs_slices_SortFunc_int_int at h ⊢; simp only at h ⊢; split at h
  · obtain ⟨h1, h2, rfl, rfl, rfl, rfl, h3, h4, h5⟩ := h; obtain ⟨T, rfl⟩ := h1; obtain ⟨l, rfl⟩ := isP_ex h2; rw [toPs_enc, toNs_enc] at *; rw [len_encN]; exact c_slices_SortFunc_int_int l T _ h3 h4 h5
  · exact h.elim
theorem en_slices_SortFunc_int_int : Enters Try.prog 108 := enters_of Try.func108 (by kernel_rfl) rfl

def g_slices_Clip_int_int : List (Nat × PSpec) := []
theorem gok_slices_Clip_int_int : GOK Try.prog g_slices_Clip_int_int := gok0
def h_slices_Clip_int_int : List (Nat × HSpec) := []
theorem hok_slices_Clip_int_int : HOK Try.prog h_slices_Clip_int_int := hok0
theorem c_slices_Clip_int_int (l : List Nat) (n : Nat) (full : Bool) (hn : n ≤ l.length) : HCall Try.prog 111 [.ref 1000 0 n full] (sm ([(1000, .arr 1 3 (encN l))])) (.ref 1000 0 n false) (sm ([(1000, .arr 1 3 (encN l))])) := by
  refine hcall_V (G := g_slices_Clip_int_int) (H := []) [] tabOK mixed gok_slices_Clip_int_int hok_slices_Clip_int_int Try.func111 rfl Try.ntmps111 Try.results111 rfl (by kernel_rfl) fun F hN hlen => ?_
  simp only [sm]
  have el := len_encN l
  simp only [V_seq, V_ret, V_region, W_nil, W_cons, effOp2, KN_seq, KXr_nil, QE, effOp, effPure, Option.isSome_some, pureV, sliceV, lenV, ofC, strip, lkT, lkH, ISt.app, opI, gO, gB, allB, gval, wrapG, dstOK, setD, enumT, conv, conv0, Op.operands, Call.operands, List.append_toArray, Array.append_empty, Option.toArray_none, Option.toArray_some, reduceIte, reduceCtorEq, Nat.reduceLT, Nat.reduceEqDiff, ne_eq, not_false_eq_true, true_and, and_true, and_self, false_implies, implies_true, forall_const, List.map_cons, List.map_nil, List.nil_append, List.cons_append, Option.map_some, Option.map_none, Bool.false_eq_true, tab3, tab50, hN, Int.toNat_natCast, FinH, resA, resV, SLe, SLe0, convTm, convHp, convB]
  exact ⟨⟨by omega, by omega⟩, fun i => i, by simp, fun _ _ _ => rfl⟩
def hs_slices_Clip_int_int : HSpec := ⟨[false], fun xs hp => match xs, hp with | [.ref 1000 0 n full], [(1000, .arr 1 ty es)] => (isNs es) ∧ (ty = 3) ∧ ((fun (l : List Nat) (n : Nat) (full : Bool) => n ≤ l.length) (toNs es) n full) | _, _ => False, fun xs hp => match xs, hp with | [.ref 1000 0 n full], [(1000, .arr 1 ty es)] => (fun (l : List Nat) (n : Nat) (full : Bool) => (.ref 1000 0 n false : IV)) (toNs es) n full | _, _ => .junk, fun xs hp => match xs, hp with | [.ref 1000 0 n full], [(1000, .arr 1 ty es)] => (fun (l : List Nat) (n : Nat) (full : Bool) => ([(1000, .arr 1 3 (encN l))] : List (Nat × IBlk))) (toNs es) n full | _, _ => []⟩
theorem hk_slices_Clip_int_int : ∀ args hp, hs_slices_Clip_int_int.pre args hp → HCall Try.prog 111 args (sm hp) (hs_slices_Clip_int_int.val args hp) (sm (hs_slices_Clip_int_int.hval args hp)) := by
  intro args hp h
  unfold hs_slices_Clip_int_int at h ⊢; simp only at h ⊢; split at h
  · obtain ⟨h1, rfl, h2⟩ := h; obtain ⟨l, rfl⟩ := h1; rw [toNs_enc] at *; exact c_slices_Clip_int_int l _ _ h2
  · exact h.elim
theorem en_slices_Clip_int_int : Enters Try.prog 111 := enters_of Try.func111 (by kernel_rfl) rfl

def g_impl_UpperEnvelope_h : List (Nat × PSpec) := [(106, sp_impl_graphsOk), (107, sp_impl_tops)]
theorem gok_impl_UpperEnvelope_h : GOK Try.prog g_impl_UpperEnvelope_h := gok_cons gk_impl_graphsOk en_impl_graphsOk (gok_cons gk_impl_tops en_impl_tops (gok0))
theorem lk_impl_UpperEnvelope_h_impl_graphsOk : lkG g_impl_UpperEnvelope_h 106 = sp_impl_graphsOk := rfl
theorem lk_impl_UpperEnvelope_h_impl_tops : lkG g_impl_UpperEnvelope_h 107 = sp_impl_tops := rfl
def h_impl_UpperEnvelope_h : List (Nat × HSpec) := [(108, hs_slices_SortFunc_int_int), (111, hs_slices_Clip_int_int)]
theorem hok_impl_UpperEnvelope_h : HOK Try.prog h_impl_UpperEnvelope_h := hok_cons hk_slices_SortFunc_int_int en_slices_SortFunc_int_int (hok_cons hk_slices_Clip_int_int en_slices_Clip_int_int (hok0))
theorem lh_impl_UpperEnvelope_h_impl_graphsOk : lkHS h_impl_UpperEnvelope_h 106 = none := rfl
theorem lh_impl_UpperEnvelope_h_impl_tops : lkHS h_impl_UpperEnvelope_h 107 = none := rfl
theorem lh_impl_UpperEnvelope_h_slices_SortFunc_int_int : lkHS h_impl_UpperEnvelope_h 108 = some hs_slices_SortFunc_int_int := rfl
theorem lh_impl_UpperEnvelope_h_slices_Clip_int_int : lkHS h_impl_UpperEnvelope_h 111 = some hs_slices_Clip_int_int := rfl
theorem c_impl_UpperEnvelope_h (l : List Pt) (hk : okGs l = true) : HCall Try.prog 36 [.sl 2 (encPs l)] (sm ([])) (.ref 0 0 (envP l).length false) (sm ([(0, .arr 1 3 (encN (envP l)))])) := by
  refine hcall_V (G := g_impl_UpperEnvelope_h) (H := h_impl_UpperEnvelope_h) [] tabOK mixed gok_impl_UpperEnvelope_h hok_impl_UpperEnvelope_h Try.func36 rfl Try.ntmps36 Try.results36 rfl (by kernel_rfl) fun F hN hlen => ?_
  simp only [sm]
  obtain ⟨h8, hok, hnd⟩ := okGs_facts hk
  have el := len_encPs l
  have hz : l.length ≤ 1000000 := by omega
  simp only [V_seq, V_skip, V_block, V_region, V_cond, brW_false, W_nil, W_cons, effOp2, KN_seq, asB, effOp, effPure, effNew, effBox, effMake, effCall, giveUp, hasAll, skipE, pureV, partV, loadV, lenV, solid, IV.cells, ofC, strip, lkT, lkH, ISt.app, opI, gO, gB, allB, gval, wrapG, dstOK, setD, mentTm, mentHp, IV.ment, IV.mentL, zeroElt, oneI, noId', lendV, lendP, lent, lentP, idsV, idsL, flat, clean, callArgs, callFn, allLent, enumT, Op.operands, Call.operands, List.append_toArray, reduceIte, reduceCtorEq, cond_true, Bool.or_false, Bool.and_true, Bool.not_true, Nat.reduceLT, Nat.reduceLeDiff, Nat.reduceEqDiff, Nat.reduceBEq, Nat.zero_add, ne_eq, not_false_eq_true, true_and, and_self, implies_true, List.map_cons, List.map_nil, List.nil_append, List.cons_append, List.append_nil, List.all_cons, List.all_nil, List.getD_cons_zero, List.length_cons, List.length_nil, List.take_succ_cons, List.take_nil, List.drop_zero, ex_clo, or_self, tab3, tab50, tab57, hN, isPs_enc, toPs_enc, lk_impl_UpperEnvelope_h_impl_graphsOk, sp_impl_graphsOk, lh_impl_UpperEnvelope_h_impl_graphsOk, hk, el]
  repeat refine And.intro (by first | omega | (simp; done) | (simp; omega)) ?_
  refine V_loop (α := Nat) ⟨tabOK, mixed, gok_impl_UpperEnvelope_h, hok_impl_UpperEnvelope_h⟩ (by kernel_rfl) (fun i => i ≤ l.length) (fun i => ⟨[(14, .num .i64 i), (13, .num .i64 l.length), (12, .sl 2 (encPs l)), (3, .ref 11 0 (topN l i).length true), (1, .ptr 1 0)], [(11, some (.arr 1 3 (encN (topN l i)))), (1, some (.box 57 [.sl 2 (encPs l)]))]⟩) (fun i => l.length - i) 0 id (Nat.zero_le _) (by simp [SLe, SLe0, convTm, convHp, convB, conv, conv0, convL, lkT, lkH, clean, topN, encN, encI]) ?_
  intro i hi
  have et := len_encN (topN l i)
  have hx : ∃ k ty es, IBlk.arr 1 3 (encN (topN l i)) = IBlk.arr k ty es := ⟨_, _, _, rfl⟩
  have tl := topN_len l i
  simp only [V_seq, V_region, V_cond, W_nil, W_cons, effOp2, KN_seq, asB, effOp, effPure, pureV, binV, strip, lkT, ISt.app, opI, gO, gB, allB, gval, wrapG, dstOK, setD, Op.operands, reduceIte, Nat.reduceLT, Nat.reduceEqDiff, true_and, and_self, implies_true, List.nil_append, List.cons_append, hN]
  refine brW_some (fun h => ?_) (fun h => ?_)
  · have hi' : i < l.length := by simpa using h
    have g0 := getD_encPs hi'
    have hw := wr_succ hi' (by rw [maxLen_eq]; omega)
    have hst := topN_succ l i
    have okp := hok _ (pA_mem hi')
    have hpa : pAt l i = pA l i := rfl
    rw [hpa] at g0
    obtain ⟨p, hp⟩ : ∃ p, pA l i = p := ⟨_, rfl⟩
    rw [hp] at g0 hst okp
    cases ht : topB l p with
    | false =>
      rw [ht, if_neg (by decide)] at hst
      simp only [V_seq, V_skip, V_block, V_region, V_cond, brW_false, W_nil, W_cons, effOp2, KN_seq, KN_block, KN_back, asB, effOp, effPure, effNew, effAlloc, effStore, effCall, giveUp, hasAll, skipE, pureV, storeV, binV, partV, eltV, loadV, iaddrV, over, solid, IV.cells, ofC, strip, lkT, lkH, ISt.app, opI, gO, gB, allB, gval, wrapG, dstOK, setD, mentTm, mentHp, IV.ment, IV.mentL, oneI, lendV, lendP, lent, lentP, idsV, idsL, flat, clean, callArgs, callFn, allLent, Op.operands, reduceIte, reduceCtorEq, cond_true, Bool.or_false, Bool.and_true, Bool.not_true, Nat.reduceAdd, Nat.reduceLT, Nat.reduceLeDiff, Nat.reduceEqDiff, Nat.reduceBEq, Nat.zero_add, ne_eq, not_false_eq_true, true_and, and_true, and_false, and_self, implies_true, forall_const, List.map_cons, List.map_nil, List.nil_append, List.cons_append, List.append_nil, List.all_cons, List.all_nil, List.getD_cons_zero, List.length_cons, List.length_nil, List.take_succ_cons, List.take_zero, List.take_nil, List.drop_succ_cons, List.drop_zero, List.drop_nil, ex_clo, or_self, tab57, tab66, hN, pe, Int.toNat_natCast, isPs_enc, toPs_enc, lk_impl_UpperEnvelope_h_impl_tops, sp_impl_tops, lh_impl_UpperEnvelope_h_impl_tops, el, g0, hw, okp, hz, ht]
      refine ⟨⟨by omega, by omega⟩, hok, i + 1, id, by simp only []; omega, by simp only []; omega, ?_⟩
      simp only [hst]
      exact by simp [SLe, SLe0, convTm, convHp, convB, conv, conv0, convL, lkT, lkH, clean]
    | true =>
      rw [ht, if_pos rfl] at hst
      have hen : encN (topN l (i + 1)) = (encN (topN l i)).take (topN l i).length ++ [IV.num .i64 ((i : Nat) : Int)] := by
        rw [hst, ← encN_app, take_encN]; rfl
      have hln : (topN l (i + 1)).length = (topN l i).length + 1 := by rw [hst]; simp
      simp only [V_seq, V_skip, V_block, V_region, V_cond, brW_true, W_nil, W_cons, effOp2, KN_seq, KN_block, KN_back, asB, effOp, effPure, effNew, effAlloc, effBuildSlice, effFrz, frz, tmpsOf, effStore, effAppend, effZeros, effCall, giveUp, hasAll, skipE, pureV, storeV, srcV, refId, binV, partV, eltV, loadV, iaddrV, over, solid, IV.cells, ofC, strip, lkT, lkH, ISt.app, opI, gO, gB, allB, gval, wrapG, dstOK, setD, mentTm, mentHp, IV.ment, IV.mentL, partsL, eltsI, eltI, oneI, noId', lendV, lendP, lent, lentP, idsV, idsL, flat, clean, callArgs, callFn, allLent, Op.operands, reduceIte, reduceCtorEq, cond_true, Bool.or_false, Bool.and_true, Bool.not_true, Nat.reduceAdd, Nat.reduceMul, Nat.reduceLT, Nat.reduceLeDiff, Nat.reduceEqDiff, Nat.reduceBEq, Nat.zero_add, ne_eq, not_false_eq_true, true_and, and_true, and_false, and_self, implies_true, forall_const, List.map_cons, List.map_nil, List.nil_append, List.cons_append, List.append_nil, List.all_cons, List.all_nil, Option.some.injEq, List.getD_cons_zero, List.length_cons, List.length_nil, List.take_succ_cons, List.take_zero, List.take_nil, List.drop_succ_cons, List.drop_zero, List.drop_nil, ex_clo, or_self, tab3, tab50, tab57, tab66, hN, pe, Int.toNat_natCast, isPs_enc, toPs_enc, lk_impl_UpperEnvelope_h_impl_tops, sp_impl_tops, lh_impl_UpperEnvelope_h_impl_tops, el, g0, hw, okp, hz, ht, et]
      refine ⟨⟨by omega, by omega⟩, hok, ?_⟩
      repeat refine And.intro (by first | omega | (simp; done) | (simp; omega)) ?_
      refine ⟨i + 1, fun x => if x = 11 then 25 else x, by simp only []; omega, by simp only []; omega, ?_⟩
      simp only [hen, hln]
      simp [SLe, SLe0, convTm, convHp, convB, conv, conv0, convL, lkT, lkH, clean, et]
      exact ⟨(List.take_of_length_le (by rw [List.length_append, List.length_take, et]; simp)).symm, fun id a1 a2 a3 => by omega⟩
  · have hie : i = l.length := by simp at h; omega
    subst hie
    have hT : ∀ x ∈ topN l l.length, x < l.length ∧ topB l (pA l x) = true := fun x hx => topN_mem.1 hx
    have hz2 : (topN l l.length).length ≤ 1000000 := by omega
    have hv : srtN l (topN l l.length) = envP l := rfl
    have hel : (envP l).length = (topN l l.length).length := srtN_len _ _
    have hee := len_encN (envP l)
    obtain ⟨T, hTT⟩ : ∃ T, topN l l.length = T := ⟨_, rfl⟩
    rw [hTT] at hT hz2 hv hel hx et ⊢
    simp only [V_seq, V_ret, V_exit, V_region, W_nil, W_cons, effOp2, KN_seq, KXr_nil, KXe_nil, KXe_seq, KXe_block, KXe_back, QE, effOp, effPure, Option.isSome_some, skipE, pureV, strip, lkT, lkH, ISt.app, opI, gO, gB, allB, gval, wrapG, dstOK, setD, mentTm, mentHp, IV.ment, IV.mentL, idsV, idsL, callArgs, callFn, enumT, conv, conv0, convL, IBlk.shape, Op.operands, List.append_toArray, reduceIte, reduceCtorEq, cond_true, cond_false, Bool.or_false, Bool.or_true, Bool.and_true, Bool.and_false, Nat.reduceAdd, Nat.reduceSub, Nat.reduceMul, Nat.reduceLT, Nat.reduceLeDiff, Nat.reduceEqDiff, Nat.reduceBEq, Nat.zero_add, not_false_eq_true, beq_self_eq_true, true_and, and_true, and_false, and_self, false_implies, implies_true, List.map_cons, List.map_nil, List.nil_append, List.cons_append, List.append_nil, List.all_nil, Option.map_some, List.getD_cons_zero, List.getD_cons_succ, ex_clo, true_or, or_self, Bool.true_eq_false, Bool.false_eq_true, hN, isPs_enc, toPs_enc, FinH, resA, resV, SLe, SLe0, convTm, convHp, convB, sm, effH, mkHC0, mkHC1, lendM, lentM, lentI, allHere, addIds, idsB, flatIds, reach, posn, renV, renL, renB, renH, numB, subHp, fwd, bk, bwd, nones, keyOK, noSl, noSlL, flatBs, List.contains, List.elem, Option.isSome_some, List.nodup_nil, List.nodup_cons, List.not_mem_nil, List.mem_cons, or_false, Option.getD_some, lh_impl_UpperEnvelope_h_slices_SortFunc_int_int, lh_impl_UpperEnvelope_h_slices_Clip_int_int, hs_slices_SortFunc_int_int, hs_slices_Clip_int_int, hnd, hz2, isNs_enc, toNs_enc, et, hv, hee, hel]
    have t1 := take_encN T
    have t2 : (encN (envP l)).take T.length = encN (envP l) := by rw [← hel]; exact take_encN _
    refine ⟨⟨t1.symm, hT, t2.symm⟩, ⟨t2.symm, Nat.le_refl _, t2.symm⟩, fun x => if x = 0 then 11 else x, ?_⟩
    simp
    intro id a b c; omega
def hs_impl_UpperEnvelope_h : HSpec := ⟨[true], fun xs hp => match xs, hp with | [.sl 2 es], [] => (isPs es) ∧ ((fun (l : List Pt) => okGs l = true) (toPs es)) | _, _ => False, fun xs hp => match xs, hp with | [.sl 2 es], [] => (fun (l : List Pt) => (.ref 0 0 (envP l).length false : IV)) (toPs es) | _, _ => .junk, fun xs hp => match xs, hp with | [.sl 2 es], [] => (fun (l : List Pt) => ([(0, .arr 1 3 (encN (envP l)))] : List (Nat × IBlk))) (toPs es) | _, _ => []⟩
theorem hk_impl_UpperEnvelope_h : ∀ args hp, hs_impl_UpperEnvelope_h.pre args hp → HCall Try.prog 36 args (sm hp) (hs_impl_UpperEnvelope_h.val args hp) (sm (hs_impl_UpperEnvelope_h.hval args hp)) := by
  intro args hp h
  unfold hs_impl_UpperEnvelope_h at h ⊢; simp only at h ⊢; split at h
  · obtain ⟨h1, h2⟩ := h; obtain ⟨l, rfl⟩ := isP_ex h1; rw [toPs_enc] at *; exact c_impl_UpperEnvelope_h l h2
  · exact h.elim
theorem en_impl_UpperEnvelope_h : Enters Try.prog 36 := enters_of Try.func36 (by kernel_rfl) rfl

theorem noSl_encN : ∀ M : List Nat, noSlL (encN M) = true
  | [] => rfl
  | x :: M => noSl_encN M
def g_impl_UpperEnvelope_v : List (Nat × PSpec) := [(106, sp_impl_graphsOk), (107, sp_impl_tops)]
theorem gok_impl_UpperEnvelope_v : GOK Try.prog g_impl_UpperEnvelope_v := gok_cons gk_impl_graphsOk en_impl_graphsOk (gok_cons gk_impl_tops en_impl_tops (gok0))
theorem lk_impl_UpperEnvelope_v_impl_graphsOk : lkG g_impl_UpperEnvelope_v 106 = sp_impl_graphsOk := rfl
theorem lk_impl_UpperEnvelope_v_impl_tops : lkG g_impl_UpperEnvelope_v 107 = sp_impl_tops := rfl
def h_impl_UpperEnvelope_v : List (Nat × HSpec) := [(108, hs_slices_SortFunc_int_int), (111, hs_slices_Clip_int_int)]
theorem hok_impl_UpperEnvelope_v : HOK Try.prog h_impl_UpperEnvelope_v := hok_cons hk_slices_SortFunc_int_int en_slices_SortFunc_int_int (hok_cons hk_slices_Clip_int_int en_slices_Clip_int_int (hok0))
theorem lh_impl_UpperEnvelope_v_impl_graphsOk : lkHS h_impl_UpperEnvelope_v 106 = none := rfl
theorem lh_impl_UpperEnvelope_v_impl_tops : lkHS h_impl_UpperEnvelope_v 107 = none := rfl
theorem lh_impl_UpperEnvelope_v_slices_SortFunc_int_int : lkHS h_impl_UpperEnvelope_v 108 = some hs_slices_SortFunc_int_int := rfl
theorem lh_impl_UpperEnvelope_v_slices_Clip_int_int : lkHS h_impl_UpperEnvelope_v 111 = some hs_slices_Clip_int_int := rfl
theorem c_impl_UpperEnvelope_v (l : List Pt) (hk : okGs l = true) : ICallF Try.prog 36 [.sl 2 (encPs l)] (.sl 1 (encN (envP l))) := by
  exact icallF_ref' (c_impl_UpperEnvelope_h l hk) (len_encN _).symm (noSl_encN _)
def sp_impl_UpperEnvelope_v : PSpec := ⟨fun xs => match xs with | [.sl 2 les] => isPs les ∧ ((fun (l : List Pt) => okGs l = true) (toPs les)) | _ => False, fun xs => match xs with | [.sl _ les] => (fun (l : List Pt) => .sl 1 (encN (envP l))) (toPs les) | _ => .junk, true⟩
theorem gk_impl_UpperEnvelope_v : ∀ args, sp_impl_UpperEnvelope_v.pre args → ICallF Try.prog 36 args (sp_impl_UpperEnvelope_v.val args) ∧ ∀ id, (sp_impl_UpperEnvelope_v.val args).ment id = false := by
  intro args h
  unfold sp_impl_UpperEnvelope_v at h ⊢; simp only at h ⊢; split at h
  · obtain ⟨h0, h1⟩ := h
    obtain ⟨l0, rfl⟩ := isP_ex h0
    simp only [toPs_enc] at *
    exact ⟨c_impl_UpperEnvelope_v _ h1, fun id => rfl⟩
  · exact h.elim
theorem en_impl_UpperEnvelope_v : Enters Try.prog 36 := enters_of Try.func36 (by kernel_rfl) rfl

def g_impl_UpperEnvelope_e0 : List (Nat × PSpec) := [(106, sp_impl_graphsOk), (107, sp_impl_tops)]
theorem gok_impl_UpperEnvelope_e0 : GOK Try.prog g_impl_UpperEnvelope_e0 := gok_cons gk_impl_graphsOk en_impl_graphsOk (gok_cons gk_impl_tops en_impl_tops (gok0))
theorem lk_impl_UpperEnvelope_e0_impl_graphsOk : lkG g_impl_UpperEnvelope_e0 106 = sp_impl_graphsOk := rfl
theorem lk_impl_UpperEnvelope_e0_impl_tops : lkG g_impl_UpperEnvelope_e0 107 = sp_impl_tops := rfl
def h_impl_UpperEnvelope_e0 : List (Nat × HSpec) := [(108, hs_slices_SortFunc_int_int), (111, hs_slices_Clip_int_int)]
theorem hok_impl_UpperEnvelope_e0 : HOK Try.prog h_impl_UpperEnvelope_e0 := hok_cons hk_slices_SortFunc_int_int en_slices_SortFunc_int_int (hok_cons hk_slices_Clip_int_int en_slices_Clip_int_int (hok0))
theorem lh_impl_UpperEnvelope_e0_impl_graphsOk : lkHS h_impl_UpperEnvelope_e0 106 = none := rfl
theorem lh_impl_UpperEnvelope_e0_impl_tops : lkHS h_impl_UpperEnvelope_e0 107 = none := rfl
theorem lh_impl_UpperEnvelope_e0_slices_SortFunc_int_int : lkHS h_impl_UpperEnvelope_e0 108 = some hs_slices_SortFunc_int_int := rfl
theorem lh_impl_UpperEnvelope_e0_slices_Clip_int_int : lkHS h_impl_UpperEnvelope_e0 111 = some hs_slices_Clip_int_int := rfl
theorem c_impl_UpperEnvelope_e0 (l : List Pt) (hk : okGs l = false) : ICall Try.prog 36 [.sl 2 (encPs l)] (.sl 1 []) := by
  refine icall_V (G := g_impl_UpperEnvelope_e0) (H := h_impl_UpperEnvelope_e0) [] tabOK mixed gok_impl_UpperEnvelope_e0 hok_impl_UpperEnvelope_e0 Try.func36 rfl Try.ntmps36 Try.results36 rfl (by kernel_rfl) fun F hN hlen => ?_
  simp only [V_seq, V_ret, V_region, V_cond, brW_true, W_nil, W_cons, effOp2, KN_seq, KXr_nil, KXr_seq, QE, asB, effOp, effPure, effNew, effBox, effCall, giveUp, hasAll, skipE, pureV, partV, loadV, solid, IV.cells, ofC, strip, lkT, lkH, ISt.app, opI, gO, gB, allB, gval, wrapG, dstOK, setD, mentTm, mentHp, IV.ment, oneI, lendV, lendP, lent, lentP, idsV, idsL, flat, clean, callArgs, callFn, allLent, enumT, Gives, Ideal.Fin, conv, conv0, Op.operands, reduceIte, reduceCtorEq, cond_true, Bool.or_false, Bool.and_true, Bool.not_true, Bool.not_false, Nat.reduceLT, Nat.reduceLeDiff, Nat.reduceEqDiff, Nat.zero_add, and_self, implies_true, List.map_cons, List.map_nil, List.nil_append, List.cons_append, List.append_nil, List.all_cons, List.all_nil, List.getD_cons_zero, List.length_cons, List.length_nil, List.take_succ_cons, List.take_nil, List.drop_zero, ex_clo, or_self, tab57, hN, isPs_enc, toPs_enc, lk_impl_UpperEnvelope_e0_impl_graphsOk, sp_impl_graphsOk, lh_impl_UpperEnvelope_e0_impl_graphsOk, hk]
def sp_impl_UpperEnvelope_e0 : PSpec := ⟨fun xs => match xs with | [.sl 2 les] => isPs les ∧ ((fun (l : List Pt) => okGs l = false) (toPs les)) | _ => False, fun xs => match xs with | [.sl _ les] => (fun (l : List Pt) => .sl 1 []) (toPs les) | _ => .junk, false⟩
theorem gk_impl_UpperEnvelope_e0 : ∀ args, sp_impl_UpperEnvelope_e0.pre args → ICall Try.prog 36 args (sp_impl_UpperEnvelope_e0.val args) := by
  intro args h
  unfold sp_impl_UpperEnvelope_e0 at h ⊢; simp only at h ⊢; split at h
  · obtain ⟨h0, h1⟩ := h
    obtain ⟨l0, rfl⟩ := isP_ex h0
    simp only [toPs_enc] at *
    exact c_impl_UpperEnvelope_e0 _ h1
  · exact h.elim
theorem en_impl_UpperEnvelope_e0 : Enters Try.prog 36 := enters_of Try.func36 (by kernel_rfl) rfl

def g_impl_UpperEnvelope_e : List (Nat × PSpec) := [(106, sp_impl_graphsOk), (107, sp_impl_tops)]
theorem gok_impl_UpperEnvelope_e : GOK Try.prog g_impl_UpperEnvelope_e := gok_cons gk_impl_graphsOk en_impl_graphsOk (gok_cons gk_impl_tops en_impl_tops (gok0))
theorem lk_impl_UpperEnvelope_e_impl_graphsOk : lkG g_impl_UpperEnvelope_e 106 = sp_impl_graphsOk := rfl
theorem lk_impl_UpperEnvelope_e_impl_tops : lkG g_impl_UpperEnvelope_e 107 = sp_impl_tops := rfl
def h_impl_UpperEnvelope_e : List (Nat × HSpec) := [(108, hs_slices_SortFunc_int_int), (111, hs_slices_Clip_int_int)]
theorem hok_impl_UpperEnvelope_e : HOK Try.prog h_impl_UpperEnvelope_e := hok_cons hk_slices_SortFunc_int_int en_slices_SortFunc_int_int (hok_cons hk_slices_Clip_int_int en_slices_Clip_int_int (hok0))
theorem lh_impl_UpperEnvelope_e_impl_graphsOk : lkHS h_impl_UpperEnvelope_e 106 = none := rfl
theorem lh_impl_UpperEnvelope_e_impl_tops : lkHS h_impl_UpperEnvelope_e 107 = none := rfl
theorem lh_impl_UpperEnvelope_e_slices_SortFunc_int_int : lkHS h_impl_UpperEnvelope_e 108 = some hs_slices_SortFunc_int_int := rfl
theorem lh_impl_UpperEnvelope_e_slices_Clip_int_int : lkHS h_impl_UpperEnvelope_e 111 = some hs_slices_Clip_int_int := rfl
theorem c_impl_UpperEnvelope_e (l : List Pt) (hk : okGs l = false) : ICallF Try.prog 36 [.sl 2 (encPs l)] (.sl 1 []) := by
  exact icallF_nil (c_impl_UpperEnvelope_e0 l hk)
def sp_impl_UpperEnvelope_e : PSpec := ⟨fun xs => match xs with | [.sl 2 les] => isPs les ∧ ((fun (l : List Pt) => okGs l = false) (toPs les)) | _ => False, fun xs => match xs with | [.sl _ les] => (fun (l : List Pt) => .sl 1 []) (toPs les) | _ => .junk, true⟩
theorem gk_impl_UpperEnvelope_e : ∀ args, sp_impl_UpperEnvelope_e.pre args → ICallF Try.prog 36 args (sp_impl_UpperEnvelope_e.val args) ∧ ∀ id, (sp_impl_UpperEnvelope_e.val args).ment id = false := by
  intro args h
  unfold sp_impl_UpperEnvelope_e at h ⊢; simp only at h ⊢; split at h
  · obtain ⟨h0, h1⟩ := h
    obtain ⟨l0, rfl⟩ := isP_ex h0
    simp only [toPs_enc] at *
    exact ⟨c_impl_UpperEnvelope_e _ h1, fun id => rfl⟩
  · exact h.elim
theorem en_impl_UpperEnvelope_e : Enters Try.prog 36 := enters_of Try.func36 (by kernel_rfl) rfl

/-- The upper envelope, if the graphs are valid. -/
def envV (l : List Pt) : List Nat := if okGs l then envP l else []
def g_impl_UpperEnvelope : List (Nat × PSpec) := [(106, sp_impl_graphsOk), (107, sp_impl_tops)]
theorem gok_impl_UpperEnvelope : GOK Try.prog g_impl_UpperEnvelope := gok_cons gk_impl_graphsOk en_impl_graphsOk (gok_cons gk_impl_tops en_impl_tops (gok0))
theorem lk_impl_UpperEnvelope_impl_graphsOk : lkG g_impl_UpperEnvelope 106 = sp_impl_graphsOk := rfl
theorem lk_impl_UpperEnvelope_impl_tops : lkG g_impl_UpperEnvelope 107 = sp_impl_tops := rfl
def h_impl_UpperEnvelope : List (Nat × HSpec) := [(108, hs_slices_SortFunc_int_int), (111, hs_slices_Clip_int_int)]
theorem hok_impl_UpperEnvelope : HOK Try.prog h_impl_UpperEnvelope := hok_cons hk_slices_SortFunc_int_int en_slices_SortFunc_int_int (hok_cons hk_slices_Clip_int_int en_slices_Clip_int_int (hok0))
theorem lh_impl_UpperEnvelope_impl_graphsOk : lkHS h_impl_UpperEnvelope 106 = none := rfl
theorem lh_impl_UpperEnvelope_impl_tops : lkHS h_impl_UpperEnvelope 107 = none := rfl
theorem lh_impl_UpperEnvelope_slices_SortFunc_int_int : lkHS h_impl_UpperEnvelope 108 = some hs_slices_SortFunc_int_int := rfl
theorem lh_impl_UpperEnvelope_slices_Clip_int_int : lkHS h_impl_UpperEnvelope 111 = some hs_slices_Clip_int_int := rfl
theorem c_impl_UpperEnvelope (l : List Pt)  : ICall Try.prog 36 [.sl 2 (encPs l)] (.sl 1 (encN (envV l))) := by
  cases hk : okGs l with
  | true =>
    have e : envV l = envP l := by rw [envV, hk]; rfl
    rw [e]
    exact icall_of_F (c_impl_UpperEnvelope_v l hk) (fun id => rfl)
  | false =>
    have e : envV l = [] := by rw [envV, hk]; rfl
    rw [e]
    exact c_impl_UpperEnvelope_e0 l hk
def sp_impl_UpperEnvelope : PSpec := ⟨fun xs => match xs with | [.sl 2 les] => isPs les | _ => False, fun xs => match xs with | [.sl _ les] => (fun (l : List Pt) => .sl 1 (encN (envV l))) (toPs les) | _ => .junk, false⟩
theorem gk_impl_UpperEnvelope : ∀ args, sp_impl_UpperEnvelope.pre args → ICall Try.prog 36 args (sp_impl_UpperEnvelope.val args) := by
  intro args h
  unfold sp_impl_UpperEnvelope at h ⊢; simp only at h ⊢; split at h
  · have h0 := h
    obtain ⟨l0, rfl⟩ := isP_ex h0
    simp only [toPs_enc] at *
    exact c_impl_UpperEnvelope _ 
  · exact h.elim
theorem en_impl_UpperEnvelope : Enters Try.prog 36 := enters_of Try.func36 (by kernel_rfl) rfl

/-- Lists of the indices of what is highest somewhere, in order: there is one. -/
theorem env_eq {l : List Pt} (hn : l.Nodup) {ord st : List Nat} (ho : ∀ x, x ∈ ord ↔ x < l.length) (hp : (ord.map (pA l)).Pairwise leE) (hst : st.map (pA l) = (ord.map (pA l)).foldl stepE []) (hs : ∀ x ∈ st, x ∈ ord) : st.reverse = envP l := by
  have hE : Env (ord.map (pA l)) (st.map (pA l)) := by
    have := env_fold (ord.map (pA l)) [] [] env_nil (by simpa using hp)
    rw [hst]; simpa using this
  have hm : ∀ v, v ∈ ord.map (pA l) ↔ v ∈ l := fun v => by
    rw [List.mem_map]
    constructor
    · rintro ⟨x, hx, rfl⟩; exact pA_mem ((ho x).1 hx)
    · intro hv
      obtain ⟨i, hi, rfl⟩ := mem_pA hv
      exact ⟨i, (ho i).2 hi, rfl⟩
  have hT : ∀ v, TopIn (ord.map (pA l)) v ↔ TopIn l v := fun v => by simp only [TopIn, hm]
  have hmem : ∀ x, x ∈ st ↔ x < l.length ∧ topB l (pA l x) = true := fun x => by
    constructor
    · intro hx
      have h1 := (ho x).1 (hs x hx)
      refine ⟨h1, (top_iff (pA_mem h1)).2 ((hT _).1 ((env_mem hE _).1 (List.mem_map.2 ⟨x, hx, rfl⟩)))⟩
    · rintro ⟨h1, h2⟩
      have := (env_mem hE (pA l x)).2 ((hT _).2 ((top_iff (pA_mem h1)).1 h2))
      obtain ⟨y, hy, e⟩ := List.mem_map.1 this
      rw [pA_inj hn ((ho y).1 (hs y hy)) h1 e] at hy
      exact hy
  refine key_unique (key := keyN l) ?_ ?_ fun x => ?_
  · rw [List.pairwise_reverse]
    have := env_desc hE
    rw [List.pairwise_map] at this
    exact this
  · have hso : (envP l).Pairwise fun x y => keyN l x ≤ keyN l y := by
      have := List.pairwise_mergeSort (le := fun x y => decide (keyN l x ≤ keyN l y)) (fun a b c h1 h2 => by
        have := of_decide_eq_true h1; have := of_decide_eq_true h2; exact decide_eq_true (by omega)) (fun a b => by
        rcases Int.le_total (keyN l a) (keyN l b) with h | h <;> simp [h]) (topN l l.length)
      exact List.Pairwise.imp (fun h => of_decide_eq_true h) this
    have hnd : (envP l).Nodup := by
      rw [envP, srtN, (List.mergeSort_perm _ _).nodup_iff]
      exact List.Pairwise.filter _ List.nodup_range
    refine List.Pairwise.imp_of_mem ?_ (List.Pairwise.and hso hnd)
    intro a b ha hb h
    have ma := topN_mem.1 ((List.mergeSort_perm _ _).mem_iff.1 ha)
    have mb := topN_mem.1 ((List.mergeSort_perm _ _).mem_iff.1 hb)
    rcases Int.lt_or_eq_of_le h.1 with q | q
    · exact q
    · exact absurd (top_inj hn ma mb q) h.2
  · rw [List.mem_reverse, hmem, envP, srtN, (List.mergeSort_perm _ _).mem_iff, topN_mem]
end Go.Proofs.Ytjlcbomigbolcaa
