/- Contracts: k-d trees (program): a sort by a comparison that reads the points and the axis; a closure that calls itself. -/
import Derived.Test.YtemppebemahkoaaB3
import Derived.Test.YtemppebemahkoaaBU
import Derived.Test.YtemppebemahkoaaBN
import Derived.Test.YtemppebemahkoaaCd
import Derived.Test.YtemppebemahkoaaPl29
set_option linter.unusedVariables false
set_option linter.unusedSimpArgs false
set_option maxHeartbeats 3200000
set_option maxRecDepth 100000
namespace Go.Proofs.Ytemppebemahkoaa
open Go Go.Ideal Go.Pl Go.Sort

abbrev IdX (l : List Pt) := {x : Nat // x < l.length}
def fK {l : List Pt} (x : IdX l) : IV := .num .i64 ((x.1 : Nat) : Int)
def eK {l : List Pt} (x : IdX l) : Value := .int .i64 ((x.1 : Nat) : Int)
def cfK (l : List Pt) (t : Bool) (a b : Nat) : Int := orI [cmpP (flipP t (pA l a)) (flipP t (pA l b)), cmpI ((a : Nat) : Int) ((b : Nat) : Int)]
def cfX {l : List Pt} (t : Bool) (x y : IdX l) : Int := cfK l t x.1 y.1
theorem encK_ok {l : List Pt} : Enc 1 (fK (l := l)) eK := ⟨fun c x v => by simp only [fK, RepV, eK], fun x => ⟨rfl, by simp [eK, Value.cells, Value.oneCell'], rfl, Nat.le_refl _⟩, fun x id => rfl⟩
theorem cmpI_zero {a b : Int} : cmpI a b = 0 ↔ a = b := by
  unfold cmpI
  constructor
  · intro h
    split at h
    · omega
    · split at h <;> omega
  · rintro rfl; rw [if_neg (by omega), if_neg (by omega)]
theorem cmpI_neg (a b : Int) : decide (cmpI a b < 0) = decide (a < b) := by
  unfold cmpI
  refine decide_eq_decide.2 ?_
  split
  · omega
  · split <;> omega
theorem cmpP_zero {p q : Pt} : cmpP p q = 0 ↔ p = q := by
  have z1 := cmpI_zero (a := p.1) (b := q.1)
  have z2 := cmpI_zero (a := p.2) (b := q.2)
  simp only [cmpP, orI]
  generalize cmpI p.1 q.1 = c1 at *
  generalize cmpI p.2 q.2 = c2 at *
  constructor
  · intro h
    split at h
    · split at h
      · exact Prod.ext (by omega) (by omega)
      · omega
    · omega
  · intro h
    rw [if_pos (z1.2 (by rw [h])), if_pos (z2.2 (by rw [h]))]
theorem cfK_neg (l : List Pt) (t : Bool) (a b : Nat) : decide (cfK l t a b < 0) = bfK l t a b := by
  have h1 := cmpP_neg (flipP t (pA l a)) (flipP t (pA l b))
  have h2 := cmpP_zero (p := flipP t (pA l a)) (q := flipP t (pA l b))
  unfold cfK bfK
  obtain ⟨c, hc⟩ : ∃ c, cmpP (flipP t (pA l a)) (flipP t (pA l b)) = c := ⟨_, rfl⟩
  rw [hc] at h1 h2
  rw [hc, ← h1]
  by_cases h0 : c = 0
  · have he := h2.1 h0
    have hb : (flipP t (pA l a) == flipP t (pA l b)) = true := by rw [he]; simp
    rw [hb, h0]
    have e : orI [0, cmpI ((a : Nat) : Int) ((b : Nat) : Int)] = cmpI ((a : Nat) : Int) ((b : Nat) : Int) := by
      simp only [orI, if_true]
      split
      · rename_i h; exact h.symm
      · rfl
    rw [e, cmpI_neg, show decide ((0 : Int) < 0) = false from rfl, Bool.false_or, Bool.true_and]
    exact decide_eq_decide.2 (by omega)
  · have hb : (flipP t (pA l a) == flipP t (pA l b)) = false := by
      rw [beq_eq_false_iff_ne]; exact fun e => h0 (h2.2 e)
    rw [hb]
    simp [orI, h0]
theorem ltOf_K {l : List Pt} (t : Bool) (x y : IdX l) : Proofs.ltOf (cfX t) x y = bfK l t x.1 y.1 := by
  rw [Proofs.ltOf, cfX]; exact cfK_neg l t x.1 y.1
theorem swoK {l : List Pt} (t : Bool) : SWO (Proofs.ltOf (cfX (l := l) t)) where
  irrefl x := by rw [ltOf_K]; exact (tot_bfK l t).irrefl _
  trans x y z h1 h2 := by rw [ltOf_K] at *; exact (tot_bfK l t).trans _ _ _ h1 h2
  ntrans x y z h1 h2 := by rw [ltOf_K] at *; exact (tot_bfK l t).le_trans h2 h1
theorem sort_K {l : List Pt} (t : Bool) [Inhabited (IdX l)] : SortC Try.prog 68 1 (eK (l := l)) (cfX t) :=
  sortC_one Try.sortI eK (fun x => rfl) (cfX t) (swoK t) (fun x y h1 h2 => by
    rw [ltOf_K] at h1 h2
    exact Subtype.ext ((tot_bfK l t).total _ _ h1 h2))
def g_impl_Point_turned : List (Nat × PSpec) := []
theorem gok_impl_Point_turned : GOK Try.prog g_impl_Point_turned := gok0
def h_impl_Point_turned : List (Nat × HSpec) := []
theorem hok_impl_Point_turned : HOK Try.prog h_impl_Point_turned := hok0
theorem c_impl_Point_turned (p : Pt)  : ICall Try.prog 70 [encP p] (encP (p.2, p.1)) := by
  refine icall_of_hcall (v := encP (p.2, p.1)) (hp' := []) id ?_ (by simp [SLe0, convTm, convHp, conv, convL, conv0, lkT, clean, encP]) (by simp [idsV, idsL, encP])
  refine hcall_V (G := g_impl_Point_turned) (H := []) [] tabOK mixed gok_impl_Point_turned hok_impl_Point_turned Try.func70 rfl Try.ntmps70 Try.results70 rfl (by kernel_rfl) fun F hN hlen => ?_
  simp only [V_seq, V_ret, V_region, W_nil, W_cons, effOp2, KN_seq, KXr_nil, QE, effOp, effPure, effNew, effAlloc, effBox, effStore, skipE, pureV, storeV, partV, loadV, faddrV, over, solid, buildL, IV.cells, ofC, strip, lkT, lkH, ISt.app, opI, gO, gB, allB, gval, wrapG, dstOK, setD, mentTm, mentHp, IV.ment, IV.mentL, oneI, clean, enumT, conv, conv0, convL, IBlk.shape, Op.operands, reduceIte, reduceCtorEq, cond_true, Bool.or_false, Bool.and_true, Nat.reduceAdd, Nat.reduceLT, Nat.reduceLeDiff, Nat.reduceEqDiff, Nat.reduceBEq, Nat.add_zero, Nat.zero_add, ne_eq, not_false_eq_true, true_and, and_false, and_self, implies_true, List.map_cons, List.map_nil, List.nil_append, List.cons_append, List.append_nil, List.all_cons, List.all_nil, Option.map_some, List.getD_cons_zero, List.getD_cons_succ, List.length_cons, List.length_nil, List.take_succ_cons, List.take_zero, List.take_nil, List.drop_succ_cons, List.drop_zero, List.drop_nil, tab3, tab30, hN, encP, FinH, resA, resV, SLe, SLe0, convTm, convHp]
  exact ⟨id, List.nodup_nil, fun _ _ _ => rfl⟩
def sp_impl_Point_turned : PSpec := ⟨fun xs => match xs with | [.agg [.num .i64 p1, .num .i64 p2]] => True | _ => False, fun xs => match xs with | [.agg [.num _ p1, .num _ p2]] => (fun (p : Pt) => encP (p.2, p.1)) (p1, p2) | _ => .junk, false⟩
theorem gk_impl_Point_turned : ∀ args, sp_impl_Point_turned.pre args → ICall Try.prog 70 args (sp_impl_Point_turned.val args) := by
  intro args h
  unfold sp_impl_Point_turned at h ⊢; simp only at h ⊢; split at h
  · exact c_impl_Point_turned (_, _)
  · exact h.elim
theorem en_impl_Point_turned : Enters Try.prog 70 := enters_of Try.func70 (by kernel_rfl) rfl

def g_impl_KdOrder_1_1 : List (Nat × PSpec) := [(70, sp_impl_Point_turned), (72, sp_impl_Point_compare), (73, sp_cmp_Compare_int), (71, sp_cmp_Or_int)]
theorem gok_impl_KdOrder_1_1 : GOK Try.prog g_impl_KdOrder_1_1 := gok_cons gk_impl_Point_turned en_impl_Point_turned (gok_cons gk_impl_Point_compare en_impl_Point_compare (gok_cons gk_cmp_Compare_int en_cmp_Compare_int (gok_cons gk_cmp_Or_int en_cmp_Or_int (gok0))))
theorem lk_impl_KdOrder_1_1_impl_Point_turned : lkG g_impl_KdOrder_1_1 70 = sp_impl_Point_turned := rfl
theorem lk_impl_KdOrder_1_1_impl_Point_compare : lkG g_impl_KdOrder_1_1 72 = sp_impl_Point_compare := rfl
theorem lk_impl_KdOrder_1_1_cmp_Compare_int : lkG g_impl_KdOrder_1_1 73 = sp_cmp_Compare_int := rfl
theorem lk_impl_KdOrder_1_1_cmp_Or_int : lkG g_impl_KdOrder_1_1 71 = sp_cmp_Or_int := rfl
def h_impl_KdOrder_1_1 : List (Nat × HSpec) := []
theorem hok_impl_KdOrder_1_1 : HOK Try.prog h_impl_KdOrder_1_1 := hok0
theorem c_impl_KdOrder_1_1 (i : Int) (k : Int) (l : List Pt) (t : Bool) (hi : 0 ≤ i ∧ i < l.length) (hk : 0 ≤ k ∧ k < l.length) : ICall Try.prog 69 [.num .i64 i, .num .i64 k, .eptr 1 (.sl 2 (encPs l)) 0, .eptr 1 (.bool t) 0] (.num .i64 (cfK l t i.toNat k.toNat)) := by
  refine icall_V (G := g_impl_KdOrder_1_1) (H := []) [(1, [(0, 8), (1, 8), (2, 8), (3, 8), (4, 8), (5, 8), (6, 8), (7, 8), (0, 9), (1, 9), (2, 9), (3, 9), (4, 9), (5, 9), (6, 9), (7, 9), (8, 9), (4, 10), (5, 10), (6, 10), (7, 10)]), (3, [(1, 2), (0, 3), (2, 4)])] tabOK mixed gok_impl_KdOrder_1_1 hok_impl_KdOrder_1_1 Try.func69 rfl Try.ntmps69 Try.results69 rfl (by kernel_rfl) fun F hN hlen => ?_
  have el := len_encPs l
  obtain ⟨a, rfl⟩ : ∃ a : Nat, i = a := ⟨i.toNat, by omega⟩
  obtain ⟨b, rfl⟩ : ∃ b : Nat, k = b := ⟨k.toNat, by omega⟩
  have g1 := getD_encPs (l := l) (i := a) (by omega)
  have g2 := getD_encPs (l := l) (i := b) (by omega)
  have hv : cfK l t a b = orI [cmpP (flipP t (pAt l a)) (flipP t (pAt l b)), cmpI ((a : Nat) : Int) ((b : Nat) : Int)] := rfl
  cases t with
  | true =>
    simp only [flipP, if_true] at hv
    simp only [V_seq, V_ret, V_region, V_draw, V_cond, brW_true, drawW, WS_nil, WS_cons, pairsOf, W_nil, W_cons, effOp2, effOp3, WI_nil, WI_cons, KN_seq, KXr_nil, QE, dynOK, indB, farB, seeB, see, isStore, freshB, freshK, freshK1, ownId, heapy, asB, effOp, effPure, effNew, effAlloc, effBuildSlice, effFrz, frz, tmpsOf, effStore, effCall, giveUp, hasAll, Option.isSome_some, skipE, pureV, storeV, partV, eltV, loadV, iaddrV, over, solid, IV.cells, ofC, strip, lkT, lkH, ISt.app, opI, gO, gB, allB, gval, wrapG, dstOK, setD, mentTm, mentHp, IV.ment, IV.mentL, partsL, eltsI, eltI, oneI, noId', lendV, lendP, lent, lentP, idsV, idsL, lkHS, flat, flatL, clean, cleanL, callArgs, callFn, allLent, enumT, Gives, Ideal.Fin, conv, conv0, Op.operands, Call.operands, List.append_toArray, reduceIte, reduceCtorEq, cond_true, cond_false, Bool.or_false, Bool.or_true, Bool.and_true, Bool.and_false, Bool.true_and, Bool.and_eq_true, Bool.not_true, Bool.not_false, Nat.reduceAdd, Nat.reduceMul, Nat.reduceLT, Nat.reduceLeDiff, Nat.reduceEqDiff, Nat.reduceBEq, Nat.zero_add, ne_eq, not_false_eq_true, beq_self_eq_true, true_and, and_true, and_false, and_self, implies_true, forall_const, List.map_cons, List.map_nil, List.nil_append, List.cons_append, List.append_nil, List.all_cons, List.all_nil, List.getD_cons_zero, List.getD_cons_succ, List.length_cons, List.length_nil, List.take_succ_cons, List.take_zero, List.take_nil, List.drop_succ_cons, List.drop_zero, List.drop_nil, ex_clo, or_self, tab3, tab4, tab23, tab25, tab30, hN, Int.toNat_natCast, encP, isIs_nil, toIs_nil, isIs_cons, toIs_cons, lk_impl_KdOrder_1_1_impl_Point_turned, lk_impl_KdOrder_1_1_impl_Point_compare, lk_impl_KdOrder_1_1_cmp_Compare_int, lk_impl_KdOrder_1_1_cmp_Or_int, sp_impl_Point_turned, sp_impl_Point_compare, sp_cmp_Compare_int, sp_cmp_Or_int, el, g1, g2, hv]
    repeat refine And.intro (by first | omega | (simp; done) | (simp; omega)) ?_
    omega
  | false =>
    simp only [flipP, Bool.false_eq_true, if_false] at hv
    simp only [V_seq, V_skip, V_ret, V_region, V_draw, V_cond, brW_false, drawW, WS_nil, pairsOf, W_nil, W_cons, effOp2, effOp3, WI_nil, WI_cons, KN_seq, KXr_nil, QE, dynOK, indB, farB, seeB, see, isStore, freshB, freshK, freshK1, ownId, heapy, asB, effOp, effPure, effNew, effAlloc, effBuildSlice, effFrz, frz, tmpsOf, effStore, effCall, giveUp, hasAll, Option.isSome_some, skipE, pureV, storeV, partV, eltV, loadV, iaddrV, over, solid, IV.cells, ofC, strip, lkT, lkH, ISt.app, opI, gO, gB, allB, gval, wrapG, dstOK, setD, mentTm, mentHp, IV.ment, IV.mentL, partsL, eltsI, eltI, oneI, noId', lendV, lendP, lent, lentP, idsV, idsL, lkHS, flat, clean, callArgs, callFn, allLent, enumT, Gives, Ideal.Fin, conv, conv0, Op.operands, reduceIte, reduceCtorEq, cond_true, cond_false, Bool.or_false, Bool.or_true, Bool.and_true, Bool.and_false, Bool.and_eq_true, Bool.not_true, Bool.not_false, Nat.reduceAdd, Nat.reduceMul, Nat.reduceLT, Nat.reduceLeDiff, Nat.reduceEqDiff, Nat.reduceBEq, Nat.zero_add, ne_eq, not_false_eq_true, beq_self_eq_true, true_and, and_true, and_false, and_self, implies_true, forall_const, List.map_cons, List.map_nil, List.nil_append, List.cons_append, List.append_nil, List.all_cons, List.all_nil, List.getD_cons_zero, List.getD_cons_succ, List.length_cons, List.length_nil, List.take_succ_cons, List.take_zero, List.take_nil, List.drop_succ_cons, List.drop_zero, List.drop_nil, ex_clo, or_self, tab3, tab4, tab23, tab25, tab30, hN, pe, Int.toNat_natCast, isIs_nil, toIs_nil, isIs_cons, toIs_cons, lk_impl_KdOrder_1_1_impl_Point_compare, lk_impl_KdOrder_1_1_cmp_Compare_int, lk_impl_KdOrder_1_1_cmp_Or_int, sp_impl_Point_compare, sp_cmp_Compare_int, sp_cmp_Or_int, el, g1, g2, hv]
    repeat refine And.intro (by first | omega | (simp; done) | (simp; omega)) ?_
    omega
def sp_impl_KdOrder_1_1 : PSpec := ⟨fun xs => match xs with | [.num .i64 i, .num .i64 k, .eptr 1 (.sl 2 les) 0, .eptr 1 (.bool t) 0] => isPs les ∧ ((fun (i : Int) (k : Int) (l : List Pt) (t : Bool) => 0 ≤ i ∧ i < l.length) i k (toPs les) t) ∧ ((fun (i : Int) (k : Int) (l : List Pt) (t : Bool) => 0 ≤ k ∧ k < l.length) i k (toPs les) t) | _ => False, fun xs => match xs with | [.num _ i, .num _ k, .eptr 1 (.sl 2 les) 0, .eptr 1 (.bool t) 0] => (fun (i : Int) (k : Int) (l : List Pt) (t : Bool) => .num .i64 (cfK l t i.toNat k.toNat)) i k (toPs les) t | _ => .junk, false⟩
theorem gk_impl_KdOrder_1_1 : ∀ args, sp_impl_KdOrder_1_1.pre args → ICall Try.prog 69 args (sp_impl_KdOrder_1_1.val args) := by
  intro args h
  unfold sp_impl_KdOrder_1_1 at h ⊢; simp only at h ⊢; split at h
  · obtain ⟨h0, h1, h2⟩ := h
    obtain ⟨l0, rfl⟩ := isP_ex h0
    simp only [toPs_enc] at *
    exact c_impl_KdOrder_1_1 _ _ _ _ h1 h2
  · exact h.elim
theorem en_impl_KdOrder_1_1 : Enters Try.prog 69 := enters_of Try.func69 (by kernel_rfl) rfl

theorem srtK_map {l : List Pt} (t : Bool) (L : List (IdX l)) : (L.mergeSort fun x y => !Proofs.ltOf (cfX t) y x).map (·.1) = srtK l t (L.map (·.1)) := by
  refine List.map_mergeSort fun a _ b _ => ?_
  rw [ltOf_K]
theorem encK_map {l : List Pt} (L : List (IdX l)) : L.map fK = encN (L.map (·.1)) := by
  rw [encN, encI, List.map_map, List.map_map]; rfl
theorem sortK_call (l : List Pt) (t : Bool) (T : List Nat) (hT : ∀ x ∈ T, x < l.length) (off n : Nat) (full : Bool) (hn : off + n ≤ T.length) (h0 : 0 < T.length) (hsz : T.length ≤ 1000000) :
    HCall Try.prog 68 [.ref 1000 off n full, .clo 69 [.ptr 1001 0, .ptr 1002 0]] (sm [(1000, .arr 1 3 (encN T)), (1001, .box 23 [.sl 2 (encPs l)]), (1002, .box 4 [.bool t])]) (.tup [])
      (sm [(1000, .arr 1 3 (encN (T.take off ++ srtK l t ((T.drop off).take n) ++ T.drop (off + n)))), (1001, .box 23 [.sl 2 (encPs l)]), (1002, .box 4 [.bool t])]) := by
  haveI : Inhabited (IdX l) := ⟨⟨T.getD 0 0, hT _ (by simp [List.getD, h0])⟩⟩
  obtain ⟨L, hL⟩ : ∃ L : List (IdX l), L.map (·.1) = T := ⟨T.attach.map fun x => ⟨x.1, hT x.1 x.2⟩, by rw [List.map_map]; exact List.attach_map_subtype_val _⟩
  have hlen : L.length = T.length := by rw [← hL, List.length_map]
  have h := sort_hcall (sort_K t) encK_ok (by decide) en_impl_KdOrder_1_1 (caps := bxE [(1001, 23, .sl 2 (encPs l)), (1002, 4, .bool t)]) rfl (fun x y => by
      have := c_impl_KdOrder_1_1 ((x.1 : Nat) : Int) ((y.1 : Nat) : Int) l t ⟨by omega, by have := x.2; omega⟩ ⟨by omega, by have := y.2; omega⟩
      rw [Int.toNat_natCast, Int.toNat_natCast] at this
      exact this) L off n full (by omega) (by omega) 3
  have e : (L.take off ++ ((L.drop off).take n).mergeSort (fun x y => !Proofs.ltOf (cfX t) y x) ++ L.drop (off + n)).map fK = encN (T.take off ++ srtK l t ((T.drop off).take n) ++ T.drop (off + n)) := by
    rw [encK_map, List.map_append, List.map_append, srtK_map, List.map_take, List.map_take, List.map_drop, List.map_drop, hL]
  rw [e, encK_map, hL] at h
  exact sort_lend [(1001, 23, .sl 2 (encPs l)), (1002, 4, .bool t)] h (by simp) (fun b hb => by
    simp only [List.mem_cons, List.not_mem_nil, or_false] at hb
    rcases hb with rfl | rfl
    · exact ⟨(by decide : 1000 < 1001), (by decide : 1001 < 2000), rfl⟩
    · exact ⟨(by decide : 1000 < 1002), (by decide : 1002 < 2000), rfl⟩) (noSl_encN _) (noSl_encN _)
def g_slices_SortFunc_int_int : List (Nat × PSpec) := []
theorem gok_slices_SortFunc_int_int : GOK Try.prog g_slices_SortFunc_int_int := gok0
def h_slices_SortFunc_int_int : List (Nat × HSpec) := []
theorem hok_slices_SortFunc_int_int : HOK Try.prog h_slices_SortFunc_int_int := hok0
theorem c_slices_SortFunc_int_int (l : List Pt) (t : Bool) (T : List Nat) (off : Nat) (n : Nat) (full : Bool) (hT : ∀ x ∈ T, x < l.length) (hn : off + n ≤ T.length) (h0 : 0 < T.length) (hsz : T.length ≤ 1000000) : HCall Try.prog 68 [.ref 1000 off n full, .clo 69 [.ptr 1001 0, .ptr 1002 0]] (sm ([(1000, .arr 1 3 (encN T)), (1001, .box 23 [.sl 2 (encPs l)]), (1002, .box 4 [.bool t])])) (.tup []) (sm ([(1000, .arr 1 3 (encN (T.take off ++ srtK l t ((T.drop off).take n) ++ T.drop (off + n)))), (1001, .box 23 [.sl 2 (encPs l)]), (1002, .box 4 [.bool t])])) := by
  exact sortK_call l t T hT off n full hn h0 hsz
def hs_slices_SortFunc_int_int : HSpec := ⟨[false, false], fun xs hp => match xs, hp with | [.ref 1000 off n full, .clo g [.ptr 1001 0, .ptr 1002 0]], [(1000, .arr 1 ty es), (1001, .box ty2 [.sl 2 les]), (1002, .box ty3 [.bool t])] => (isNs es) ∧ (isPs les) ∧ (ty = 3) ∧ (ty2 = 23) ∧ (ty3 = 4) ∧ (g = 69) ∧ ((fun (l : List Pt) (t : Bool) (T : List Nat) (off : Nat) (n : Nat) (full : Bool) => ∀ x ∈ T, x < l.length) (toPs les) t (toNs es) off n full) ∧ ((fun (l : List Pt) (t : Bool) (T : List Nat) (off : Nat) (n : Nat) (full : Bool) => off + n ≤ T.length) (toPs les) t (toNs es) off n full) ∧ ((fun (l : List Pt) (t : Bool) (T : List Nat) (off : Nat) (n : Nat) (full : Bool) => 0 < T.length) (toPs les) t (toNs es) off n full) ∧ ((fun (l : List Pt) (t : Bool) (T : List Nat) (off : Nat) (n : Nat) (full : Bool) => T.length ≤ 1000000) (toPs les) t (toNs es) off n full) | _, _ => False, fun xs hp => match xs, hp with | [.ref 1000 off n full, .clo g [.ptr 1001 0, .ptr 1002 0]], [(1000, .arr 1 ty es), (1001, .box ty2 [.sl 2 les]), (1002, .box ty3 [.bool t])] => (fun (l : List Pt) (t : Bool) (T : List Nat) (off : Nat) (n : Nat) (full : Bool) => (.tup [] : IV)) (toPs les) t (toNs es) off n full | _, _ => .junk, fun xs hp => match xs, hp with | [.ref 1000 off n full, .clo g [.ptr 1001 0, .ptr 1002 0]], [(1000, .arr 1 ty es), (1001, .box ty2 [.sl 2 les]), (1002, .box ty3 [.bool t])] => (fun (l : List Pt) (t : Bool) (T : List Nat) (off : Nat) (n : Nat) (full : Bool) => ([(1000, .arr 1 3 (encN (T.take off ++ srtK l t ((T.drop off).take n) ++ T.drop (off + n)))), (1001, .box 23 [.sl 2 (encPs l)]), (1002, .box 4 [.bool t])] : List (Nat × IBlk))) (toPs les) t (toNs es) off n full | _, _ => []⟩
theorem hk_slices_SortFunc_int_int : ∀ args hp, hs_slices_SortFunc_int_int.pre args hp → HCall Try.prog 68 args (sm hp) (hs_slices_SortFunc_int_int.val args hp) (sm (hs_slices_SortFunc_int_int.hval args hp)) := by
  intro args hp h
  unfold hs_slices_SortFunc_int_int at h ⊢; simp only at h ⊢; split at h
  · obtain ⟨⟨T, rfl⟩, hp, rfl, rfl, rfl, rfl, h2, h3, h4, h5⟩ := h; obtain ⟨l, rfl⟩ := isP_ex hp; rw [toNs_enc, toPs_enc] at *; exact c_slices_SortFunc_int_int l _ T _ _ _ h2 h3 h4 h5
  · exact h.elim
theorem en_slices_SortFunc_int_int : Enters Try.prog 68 := enters_of Try.func68 (by kernel_rfl) rfl


/-! the closure that calls itself -/
def g_kd : List (Nat × PSpec) := []
theorem gok_kd : GOK Try.prog g_kd := gok0
def h_kd : List (Nat × HSpec) := [(68, hs_slices_SortFunc_int_int)]
theorem hok_kd : HOK Try.prog h_kd := hok_cons hk_slices_SortFunc_int_int en_slices_SortFunc_int_int (hok0)
theorem lh_kd_slices_SortFunc_int_int : lkHS h_kd 68 = some hs_slices_SortFunc_int_int := rfl
abbrev kdFn : IV := .clo 67 [.ptr 1001 0, .ptr 1002 0, .ptr 1003 0]
def kdHp (l : List Pt) (L O : List Nat) : List (Nat × IBlk) := [(1000, .arr 1 3 (encN L)), (1001, .box 23 [.sl 2 (encPs l)]), (1002, .box 25 [.ref 1004 0 O.length true]), (1003, .box 82 [kdFn]), (1004, .arr 1 3 (encN O))]
def kdHv (l : List Pt) (L O : List Nat) (k : Nat) : List (Nat × IBlk) := [(0, .arr 1 3 (encN O)), (1000, .arr 1 3 (encN L)), (1001, .box 23 [.sl 2 (encPs l)]), (1002, .box 25 [.ref 0 0 k true]), (1003, .box 82 [kdFn])]
def kdRow (l : List Pt) (t : Bool) (L : List Nat) (off n : Nat) : List Nat := L.take off ++ rowK l t ((L.drop off).take n) ++ L.drop (off + n)
def kdOut (l : List Pt) (t : Bool) (L O : List Nat) (off n : Nat) : List Nat := O ++ kdP l t ((L.drop off).take n)
theorem kdOut_len {l : List Pt} {t : Bool} {L O : List Nat} {off n : Nat} (h : off + n ≤ L.length) : (kdOut l t L O off n).length = O.length + n := by
  rw [kdOut, List.length_append, kdP_len, List.length_take, List.length_drop]; omega
theorem kdRow_len {l : List Pt} {t : Bool} {L : List Nat} {off n : Nat} (h : off + n ≤ L.length) : (kdRow l t L off n).length = L.length := by
  rw [kdRow, List.length_append, List.length_append, rowK_len, List.length_take, List.length_take, List.length_drop, List.length_drop]; omega
def hsKd (m : Nat) : HSpec := ⟨[false, false, false, false, false],
  fun xs hp => match xs, hp with
    | [.ref 1000 off n full, .bool t, .ptr 1001 0, .ptr 1002 0, .ptr 1003 0], [(1000, .arr 1 ty1 es), (1001, .box ty2 [.sl 2 les]), (1002, .box ty3 [.ref 1004 0 no true]), (1003, .box ty4 [.clo f [.ptr 1001 0, .ptr 1002 0, .ptr 1003 0]]), (1004, .arr 1 ty5 os)] =>
      n < m ∧ isNs es ∧ isPs les ∧ isNs os ∧ ty1 = 3 ∧ ty2 = 23 ∧ ty3 = 25 ∧ ty4 = 82 ∧ ty5 = 3 ∧ f = 67 ∧ no = os.length ∧ off + n ≤ es.length ∧ (∀ x ∈ toNs es, x < (toPs les).length) ∧ es.length ≤ 20 ∧ os.length + n ≤ 1000
    | _, _ => False,
  fun xs hp => .tup [],
  fun xs hp => match xs, hp with
    | [.ref 1000 off n full, .bool t, .ptr 1001 0, .ptr 1002 0, .ptr 1003 0], [(1000, .arr 1 ty1 es), (1001, .box ty2 [.sl 2 les]), (1002, .box ty3 [.ref 1004 0 no true]), (1003, .box ty4 [.clo f [.ptr 1001 0, .ptr 1002 0, .ptr 1003 0]]), (1004, .arr 1 ty5 os)] =>
      [(0, .arr 1 3 (encN (kdOut (toPs les) t (toNs es) (toNs os) off n))), (1000, .arr 1 3 (encN (kdRow (toPs les) t (toNs es) off n))), (1001, .box 23 [.sl 2 les]), (1002, .box 25 [.ref 0 0 (os.length + n) true]), (1003, .box 82 [kdFn])]
    | _, _ => []⟩
theorem hsKd_mask (m : Nat) : (hsKd m).mask = [false, false, false, false, false] := rfl
theorem hsKd_pre (m off n no f ty1 ty2 ty3 ty4 ty5 : Nat) (full t : Bool) (es les os : List IV) : (hsKd m).pre [.ref 1000 off n full, .bool t, .ptr 1001 0, .ptr 1002 0, .ptr 1003 0] [(1000, .arr 1 ty1 es), (1001, .box ty2 [.sl 2 les]), (1002, .box ty3 [.ref 1004 0 no true]), (1003, .box ty4 [.clo f [.ptr 1001 0, .ptr 1002 0, .ptr 1003 0]]), (1004, .arr 1 ty5 os)] =
    (n < m ∧ isNs es ∧ isPs les ∧ isNs os ∧ ty1 = 3 ∧ ty2 = 23 ∧ ty3 = 25 ∧ ty4 = 82 ∧ ty5 = 3 ∧ f = 67 ∧ no = os.length ∧ off + n ≤ es.length ∧ (∀ x ∈ toNs es, x < (toPs les).length) ∧ es.length ≤ 20 ∧ os.length + n ≤ 1000) := rfl
theorem hsKd_val (m : Nat) (xs : List IV) (hp : List (Nat × IBlk)) : (hsKd m).val xs hp = .tup [] := rfl
theorem hsKd_hval (m off n no f ty1 ty2 ty3 ty4 ty5 : Nat) (full t : Bool) (es les os : List IV) : (hsKd m).hval [.ref 1000 off n full, .bool t, .ptr 1001 0, .ptr 1002 0, .ptr 1003 0] [(1000, .arr 1 ty1 es), (1001, .box ty2 [.sl 2 les]), (1002, .box ty3 [.ref 1004 0 no true]), (1003, .box ty4 [.clo f [.ptr 1001 0, .ptr 1002 0, .ptr 1003 0]]), (1004, .arr 1 ty5 os)] =
    [(0, .arr 1 3 (encN (kdOut (toPs les) t (toNs es) (toNs os) off n))), (1000, .arr 1 3 (encN (kdRow (toPs les) t (toNs es) off n))), (1001, .box 23 [.sl 2 les]), (1002, .box 25 [.ref 0 0 (os.length + n) true]), (1003, .box 82 [.clo 67 [.ptr 1001 0, .ptr 1002 0, .ptr 1003 0]])] := rfl
theorem en_kd : Enters Try.prog 67 := enters_of Try.func67 (by kernel_rfl) rfl
theorem kd_quo (n : Nat) (h : n ≤ 1000) : IntKind.i64.wrap (((n : Nat) : Int).tdiv 2) = ((n / 2 : Nat) : Int) := by
  have e : ((n : Nat) : Int).tdiv 2 = ((n / 2 : Nat) : Int) := by rw [Int.tdiv_eq_ediv_of_nonneg (by omega)]; omega
  rw [e, wr (by omega) (by omega)]
theorem kd_facts (l : List Pt) (t : Bool) {L O : List Nat} {off n : Nat} (hoff : off + n ≤ L.length) (h0 : 0 < n) (hL : ∀ x ∈ L, x < l.length) :
    ∃ L1 L2 O2 : List Nat, ∃ x : Nat, L.take off ++ srtK l t ((L.drop off).take n) ++ L.drop (off + n) = L1 ∧ L1.length = L.length ∧ (∀ y ∈ L1, y < l.length) ∧ nAt L1 (off + n / 2) = x ∧
      kdRow l (!t) L1 off (n / 2) = L2 ∧ L2.length = L.length ∧ (∀ y ∈ L2, y < l.length) ∧ kdOut l (!t) L1 (O ++ [x]) off (n / 2) = O2 ∧ O2.length = O.length + 1 + n / 2 ∧
      kdRow l (!t) L2 (off + (n / 2 + 1)) (n - (n / 2 + 1)) = kdRow l t L off n ∧ kdOut l (!t) L2 O2 (off + (n / 2 + 1)) (n - (n / 2 + 1)) = kdOut l t L O off n := by
  have hsl : ((L.drop off).take n).length = n := by rw [List.length_take, List.length_drop]; omega
  have hSl := srtK_len l t ((L.drop off).take n)
  rw [hsl] at hSl
  have hk := kdP_step l t (idx := (L.drop off).take n) (by omega)
  have hr := rowK_step l t (idx := (L.drop off).take n) (by omega)
  rw [hsl] at hk hr
  have hSm : ∀ y ∈ srtK l t ((L.drop off).take n), y < l.length := fun y hy => hL y (List.mem_of_mem_drop (List.mem_of_mem_take ((srtK_perm l t _).mem_iff.1 hy)))
  have hko : kdOut l t L O off n = O ++ kdP l t ((L.drop off).take n) := rfl
  have hkr : kdRow l t L off n = L.take off ++ rowK l t ((L.drop off).take n) ++ L.drop (off + n) := rfl
  obtain ⟨S, hS⟩ : ∃ S, srtK l t ((L.drop off).take n) = S := ⟨_, rfl⟩
  rw [hS] at hSl hk hr hSm
  rw [hk] at hko
  rw [hr] at hkr
  have hA : (L.take off).length = off := by rw [List.length_take]; omega
  obtain ⟨A, eA⟩ : ∃ A, L.take off = A := ⟨_, rfl⟩
  obtain ⟨C, eC⟩ : ∃ C, L.drop (off + n) = C := ⟨_, rfl⟩
  have hC : C.length = L.length - (off + n) := by rw [← eC, List.length_drop]
  have hAm : ∀ y ∈ A, y < l.length := fun y hy => hL y (List.mem_of_mem_take (eA ▸ hy))
  have hCm : ∀ y ∈ C, y < l.length := fun y hy => hL y (List.mem_of_mem_drop (eC ▸ hy))
  rw [eA] at hA hkr
  rw [eC] at hkr
  have hh : n / 2 < n := by omega
  have hSsplit : S = S.take (n / 2) ++ S.getD (n / 2) 0 :: S.drop (n / 2 + 1) := by
    have : S.drop (n / 2) = S.getD (n / 2) 0 :: S.drop (n / 2 + 1) := by rw [List.drop_eq_getElem_cons (by omega)]; simp [List.getD, show n / 2 < S.length by omega]
    rw [← this, List.take_append_drop]
  obtain ⟨S1, e1⟩ : ∃ S1, S.take (n / 2) = S1 := ⟨_, rfl⟩
  obtain ⟨S2, e2⟩ : ∃ S2, S.drop (n / 2 + 1) = S2 := ⟨_, rfl⟩
  obtain ⟨x, ex⟩ : ∃ x, S.getD (n / 2) 0 = x := ⟨_, rfl⟩
  have l1 : S1.length = n / 2 := by rw [← e1, List.length_take]; omega
  have l2 : S2.length = n - (n / 2 + 1) := by rw [← e2, List.length_drop, hSl]
  rw [e1, e2, ex] at hSsplit hko hkr
  have d1 : ((A ++ S ++ C).drop off).take (n / 2) = S1 := by
    rw [List.append_assoc, ← hA, List.drop_left, hSsplit, List.append_assoc, ← l1, List.take_left]
  have d2 : (A ++ S ++ C).take off = A := by rw [List.append_assoc, ← hA, List.take_left]
  have d3 : (A ++ S ++ C).drop (off + n / 2) = x :: S2 ++ C := by
    have : (A ++ S1).length = off + n / 2 := by rw [List.length_append, hA, l1]
    rw [hSsplit, ← this, show A ++ (S1 ++ x :: S2) ++ C = (A ++ S1) ++ (x :: S2 ++ C) by simp, List.drop_left]
  have R1 := rowK_len l (!t) S1
  have eL2 : kdRow l (!t) (A ++ S ++ C) off (n / 2) = A ++ rowK l (!t) S1 ++ (x :: S2 ++ C) := by rw [kdRow, d1, d2, d3]
  have eO2 : kdOut l (!t) (A ++ S ++ C) (O ++ [x]) off (n / 2) = O ++ [x] ++ kdP l (!t) S1 := by rw [kdOut, d1]
  have hxS : x ∈ S := by rw [← ex]; simp [List.getD, show n / 2 < S.length by omega]
  refine ⟨A ++ S ++ C, _, _, x, by rw [eA, hS, eC], ?_, ?_, ?_, eL2, ?_, ?_, eO2, ?_, ?_, ?_⟩
  · rw [List.length_append, List.length_append, hA, hSl, hC]; omega
  · intro y hy
    rcases List.mem_append.1 hy with hy | hy
    · rcases List.mem_append.1 hy with hy | hy
      · exact hAm y hy
      · exact hSm y hy
    · exact hCm y hy
  · have : nAt (A ++ S ++ C) (off + n / 2) = ((A ++ S ++ C).drop (off + n / 2)).getD 0 0 := by simp [List.getD]
    rw [this, d3]; rfl
  · rw [List.length_append, List.length_append, hA, R1, l1, List.length_append, List.length_cons, l2, hC]; omega
  · intro y hy
    rcases List.mem_append.1 hy with hy | hy
    · rcases List.mem_append.1 hy with hy | hy
      · exact hAm y hy
      · exact hSm y (by rw [hSsplit]; exact List.mem_append.2 (.inl (rowK_mem.1 hy)))
    · rcases List.mem_append.1 hy with hy | hy
      · exact hSm y (by rw [hSsplit]; exact List.mem_append.2 (.inr hy))
      · exact hCm y hy
  · rw [List.length_append, List.length_append, kdP_len, l1]; rfl
  · have f1 : (A ++ rowK l (!t) S1 ++ [x]).length = off + (n / 2 + 1) := by rw [List.length_append, List.length_append, hA, R1, l1]; rfl
    have e : A ++ rowK l (!t) S1 ++ (x :: S2 ++ C) = (A ++ rowK l (!t) S1 ++ [x]) ++ (S2 ++ C) := by simp
    rw [kdRow, hkr, e, ← f1, List.take_left, List.drop_left, ← l2, List.take_left, ← List.drop_drop, List.drop_left, List.drop_left]
    simp
  · have f1 : (A ++ rowK l (!t) S1 ++ [x]).length = off + (n / 2 + 1) := by rw [List.length_append, List.length_append, hA, R1, l1]; rfl
    have e : A ++ rowK l (!t) S1 ++ (x :: S2 ++ C) = (A ++ rowK l (!t) S1 ++ [x]) ++ (S2 ++ C) := by simp
    rw [kdOut, hko, e, ← f1, List.drop_left, ← l2, List.take_left]
    simp
theorem kd_call : ∀ (m n : Nat), n < m → ∀ (l : List Pt) (t : Bool) (off : Nat) (full : Bool) (L O : List Nat), off + n ≤ L.length → (∀ x ∈ L, x < l.length) → L.length ≤ 20 → O.length + n ≤ 1000 →
    HCall Try.prog 67 [.ref 1000 off n full, .bool t, .ptr 1001 0, .ptr 1002 0, .ptr 1003 0] (sm (kdHp l L O)) (.tup []) (sm (kdHv l (kdRow l t L off n) (kdOut l t L O off n) (O.length + n))) := by
  intro m
  induction m with
  | zero => intro n h; omega
  | succ m ih =>
    intro n hnm l t off full L O hoff hL hLs hO
    have hH : HOK Try.prog ((67, hsKd m) :: h_kd) := by
      refine hok_cons (fun args hp h => ?_) en_kd hok_kd
      unfold hsKd at h ⊢; simp only at h ⊢; split at h
      · obtain ⟨k1, ⟨L', rfl⟩, k2, ⟨O', rfl⟩, rfl, rfl, rfl, rfl, rfl, rfl, rfl, k3, k4, k5, k6⟩ := h
        obtain ⟨l', rfl⟩ := isP_ex k2
        simp only [toNs_enc, toPs_enc, len_encN] at *
        exact ih _ k1 l' _ _ _ L' O' k3 k4 k5 k6
      · exact h.elim
    refine hcall_V (G := g_kd) (H := (67, hsKd m) :: h_kd) [(4, [(0, 5), (1, 5), (2, 5), (3, 5), (1, 6), (2, 6), (3, 6), (4, 6)]), (5, [(6, 6)]), (6, [(7, 7)])] tabOK mixed gok_kd hH Try.func67 rfl Try.ntmps67 Try.results67 rfl (by kernel_rfl) fun F hN hlen => ?_
    simp only [sm, kdHp, kdHv]
    have eL := len_encN L
    have eO := len_encN O
    rcases Nat.eq_zero_or_pos n with h0 | h0
    · subst h0
      have z1 : kdRow l t L off 0 = L := by simp [kdRow, rowK, rowF]
      have z2 : kdOut l t L O off 0 = O := by simp [kdOut, kdP, kdF]
      have d0 : (((0 : Nat) : Int) == 0) = true := rfl
      simp only [V_seq, V_ret, V_region, V_cond, brW_true, W_nil, W_cons, effOp2, KN_seq, KXr_nil, KXr_seq, QE, asB, effOp, effPure, effNew, effBox, skipE, pureV, binV, lenV, solid, IV.cells, ofC, strip, lkT, lkH, ISt.app, opI, gO, gB, allB, gval, wrapG, dstOK, setD, mentTm, mentHp, IV.ment, IV.mentL, oneI, enumT, conv, convL, Op.operands, Call.operands, List.append_toArray, reduceIte, reduceCtorEq, cond_true, Bool.or_false, Bool.and_true, Nat.reduceAdd, Nat.reduceLT, Nat.reduceEqDiff, Nat.reduceBEq, Nat.add_zero, Nat.zero_add, ne_eq, not_false_eq_true, true_and, and_true, and_self, false_implies, implies_true, List.map_cons, List.map_nil, List.nil_append, List.cons_append, List.all_cons, List.all_nil, tab25, hN, FinH, resA, SLe, SLe0, convTm, convHp, convB, List.nodup_nil, List.nodup_cons, List.not_mem_nil, List.mem_cons, or_false, kdFn, z1, z2, d0]
      exact ⟨fun x => if x = 0 then 1004 else x, by simp [convL, conv, conv0]; omega⟩
    · obtain ⟨L1, L2, O2, x, f1, f2, f3, f4, f5, f6, f7, f8, f9, f10, f11⟩ := kd_facts l t (O := O) hoff h0 hL
      have d0 : (((n : Nat) : Int) == 0) = false := by simp; omega
      have hq := kd_quo n (by omega)
      have e1 := len_encN L1
      have e2 := len_encN L2
      rw [f2] at e1
      rw [f6] at e2
      have e3 := len_encN O2
      rw [f9] at e3
      have g := getD_encN (L := L1) (i := off + n / 2) (by omega)
      rw [f4] at g
      have a1 : (encN O).take O.length ++ [.num .i64 ((x : Nat) : Int)] = encN (O ++ [x]) := by rw [take_encN]; exact encN_app O [x]
      have a2 : (encN (O ++ [x])).length = O.length + 1 := by rw [len_encN, List.length_append]; rfl
      have w1 : IntKind.i64.wrap (((n / 2 : Nat) : Int) + 1) = ((n / 2 + 1 : Nat) : Int) := by rw [wr (by omega) (by omega)]; omega
      have hx : ∃ k ty es, IBlk.arr 1 3 (encN L) = IBlk.arr k ty es := ⟨_, _, _, rfl⟩
      have hx1 : ∃ k ty es, IBlk.arr 1 3 (encN L1) = IBlk.arr k ty es := ⟨_, _, _, rfl⟩
      simp only [V_seq, V_skip, V_region, V_draw, V_cond, brW_false, drawW, WS_nil, WS_cons, pairsOf, W_nil, W_cons, effOp2, effOp3, WI_nil, WI_cons, KN_nil, KN_seq, QE, dynOK, indB, farB, seeB, see, isStore, freshB, freshK, freshK1, ownId, heapy, asB, effOp, effPure, effNew, effBox, effBuildSlice, effFrz, frz, tmpsOf, effStore, effAppend, effZeros, Option.isSome_some, skipE, badE, pureV, storeV, srcV, refId, binV, partV, eltV, loadV, iaddrV, sliceV, lenV, over, solid, IV.cells, ofC, strip, lkT, lkH, ISt.app, opI, gO, gB, allB, gval, wrapG, dstOK, setD, mentTm, mentHp, IV.ment, IV.mentL, partsL, eltsI, eltI, oneI, noId', idsV, idsL, lkHS, clean, callArgs, callFn, enumT, conv, conv0, convL, IBlk.shape, Op.operands, Call.operands, List.append_toArray, Array.append_empty, Option.toArray_none, Option.toArray_some, reduceIte, reduceCtorEq, cond_true, cond_false, Bool.or_false, Bool.or_true, Bool.and_true, Bool.and_false, Bool.and_eq_true, Bool.not_false, Nat.reduceAdd, Nat.reduceSub, Nat.reduceMul, Nat.reduceLT, Nat.reduceLeDiff, Nat.reduceEqDiff, Nat.reduceBEq, Nat.add_zero, Nat.zero_add, ne_eq, not_false_eq_true, beq_self_eq_true, true_and, and_true, false_and, and_false, and_self, false_implies, implies_true, forall_const, List.map_cons, List.map_nil, List.nil_append, List.cons_append, List.append_nil, List.all_cons, List.all_nil, Option.some.injEq, Option.map_some, Option.map_none, List.getD_cons_zero, List.getD_cons_succ, List.length_cons, List.length_nil, List.take_succ_cons, List.take_zero, List.take_nil, List.drop_succ_cons, List.drop_zero, List.drop_nil, ex_clo, or_self, Bool.true_eq_false, Bool.false_eq_true, tab3, tab4, tab25, tab82, hN, Int.toNat_natCast, isPs_enc, toPs_enc, FinH, resA, SLe, SLe0, convTm, convHp, convB, sm, effH, effHs, keysIn, mkHC0, mkHC1, lendM, lentM, lentI, allHere, addIds, idsB, flatIds, reach, posn, renV, renL, renB, renH, numB, subHp, fwd, bk, bwd, nones, keyOK, noSl, noSlL, flatBs, List.contains, List.elem, Option.isSome_some, List.nodup_nil, List.nodup_cons, List.not_mem_nil, List.mem_cons, or_false, Option.getD_some, lh_kd_slices_SortFunc_int_int, hs_slices_SortFunc_int_int, kdFn, hsKd_mask, hsKd_pre, hsKd_val, hsKd_hval, isNs_enc, toNs_enc, eL, eO, d0, hq, e1, e2, e3, f1, f5, f8, f10, f11, g, a1, a2, w1, Int.toNat_natCast]
      have T : ∀ (M : List Nat) (k : Nat), M.length = k → encN M = (encN M).take k := fun M k h => (List.take_of_length_le (by rw [len_encN]; omega)).symm
      refine ⟨⟨⟨id, T _ _ rfl⟩, ⟨hL, hoff, by omega, by omega⟩, T _ _ f2⟩, by omega, ⟨by omega, by omega⟩, by omega, ⟨Nat.le_refl _, by omega⟩, ⟨by omega, by omega⟩, ⟨⟨id, T _ _ f2, T _ _ (by rw [List.length_append]; rfl)⟩, ⟨by omega, by omega, f3, by omega, by omega⟩, T _ _ f9, T _ _ f6⟩, ⟨by omega, by omega⟩, ⟨⟨id, T _ _ f6, T _ _ f9⟩, ⟨by omega, by omega, f7, by omega, by omega⟩, List.take_length.symm, List.take_length.symm⟩, fun z => if z = 0 then 2608 else z, ?_⟩
      simp [convL, conv, conv0]
      exact ⟨by omega, fun id h1 _ => by omega⟩
def g_impl_KdOrder_1 : List (Nat × PSpec) := []
theorem gok_impl_KdOrder_1 : GOK Try.prog g_impl_KdOrder_1 := gok0
def h_impl_KdOrder_1 : List (Nat × HSpec) := []
theorem hok_impl_KdOrder_1 : HOK Try.prog h_impl_KdOrder_1 := hok0
theorem c_impl_KdOrder_1 (l : List Pt) (t : Bool) (off : Nat) (n : Nat) (full : Bool) (L : List Nat) (O : List Nat) (hoff : off + n ≤ L.length) (hL : ∀ x ∈ L, x < l.length) (hLs : L.length ≤ 20) (hO : O.length + n ≤ 1000) : HCall Try.prog 67 [.ref 1000 off n full, .bool t, .ptr 1001 0, .ptr 1002 0, .ptr 1003 0] (sm (kdHp l L O)) (.tup []) (sm (kdHv l (kdRow l t L off n) (kdOut l t L O off n) (O.length + n))) := by
  exact kd_call _ _ (Nat.lt_succ_self _) l t off full L O hoff hL hLs hO
def hs_impl_KdOrder_1 : HSpec := ⟨[false, false, false, false, false], fun xs hp => match xs, hp with | [.ref 1000 off n full, .bool t, .ptr 1001 0, .ptr 1002 0, .ptr 1003 0], [(1000, .arr 1 ty1 es), (1001, .box ty2 [.sl 2 les]), (1002, .box ty3 [.ref 1004 0 no true]), (1003, .box ty4 [.clo f [.ptr 1001 0, .ptr 1002 0, .ptr 1003 0]]), (1004, .arr 1 ty5 os)] => (isNs es) ∧ (isPs les) ∧ (isNs os) ∧ (ty1 = 3) ∧ (ty2 = 23) ∧ (ty3 = 25) ∧ (ty4 = 82) ∧ (ty5 = 3) ∧ (f = 67) ∧ (no = os.length) ∧ ((fun (l : List Pt) (t : Bool) (off : Nat) (n : Nat) (full : Bool) (L : List Nat) (O : List Nat) => off + n ≤ L.length) (toPs les) t off n full (toNs es) (toNs os)) ∧ ((fun (l : List Pt) (t : Bool) (off : Nat) (n : Nat) (full : Bool) (L : List Nat) (O : List Nat) => ∀ x ∈ L, x < l.length) (toPs les) t off n full (toNs es) (toNs os)) ∧ ((fun (l : List Pt) (t : Bool) (off : Nat) (n : Nat) (full : Bool) (L : List Nat) (O : List Nat) => L.length ≤ 20) (toPs les) t off n full (toNs es) (toNs os)) ∧ ((fun (l : List Pt) (t : Bool) (off : Nat) (n : Nat) (full : Bool) (L : List Nat) (O : List Nat) => O.length + n ≤ 1000) (toPs les) t off n full (toNs es) (toNs os)) | _, _ => False, fun xs hp => match xs, hp with | [.ref 1000 off n full, .bool t, .ptr 1001 0, .ptr 1002 0, .ptr 1003 0], [(1000, .arr 1 ty1 es), (1001, .box ty2 [.sl 2 les]), (1002, .box ty3 [.ref 1004 0 no true]), (1003, .box ty4 [.clo f [.ptr 1001 0, .ptr 1002 0, .ptr 1003 0]]), (1004, .arr 1 ty5 os)] => (fun (l : List Pt) (t : Bool) (off : Nat) (n : Nat) (full : Bool) (L : List Nat) (O : List Nat) => (.tup [] : IV)) (toPs les) t off n full (toNs es) (toNs os) | _, _ => .junk, fun xs hp => match xs, hp with | [.ref 1000 off n full, .bool t, .ptr 1001 0, .ptr 1002 0, .ptr 1003 0], [(1000, .arr 1 ty1 es), (1001, .box ty2 [.sl 2 les]), (1002, .box ty3 [.ref 1004 0 no true]), (1003, .box ty4 [.clo f [.ptr 1001 0, .ptr 1002 0, .ptr 1003 0]]), (1004, .arr 1 ty5 os)] => (fun (l : List Pt) (t : Bool) (off : Nat) (n : Nat) (full : Bool) (L : List Nat) (O : List Nat) => (kdHv l (kdRow l t L off n) (kdOut l t L O off n) (O.length + n) : List (Nat × IBlk))) (toPs les) t off n full (toNs es) (toNs os) | _, _ => []⟩
theorem hk_impl_KdOrder_1 : ∀ args hp, hs_impl_KdOrder_1.pre args hp → HCall Try.prog 67 args (sm hp) (hs_impl_KdOrder_1.val args hp) (sm (hs_impl_KdOrder_1.hval args hp)) := by
  intro args hp h
  unfold hs_impl_KdOrder_1 at h ⊢; simp only at h ⊢; split at h
  · obtain ⟨⟨L', rfl⟩, k2, ⟨O', rfl⟩, rfl, rfl, rfl, rfl, rfl, rfl, rfl, k3, k4, k5, k6⟩ := h; obtain ⟨l', rfl⟩ := isP_ex k2; simp only [toNs_enc, toPs_enc, len_encN] at *; exact kd_call _ _ (Nat.lt_succ_self _) _ _ _ _ _ _ k3 k4 k5 k6
  · exact h.elim
theorem en_impl_KdOrder_1 : Enters Try.prog 67 := enters_of Try.func67 (by kernel_rfl) rfl

def g_impl_KdOrder_2 : List (Nat × PSpec) := []
theorem gok_impl_KdOrder_2 : GOK Try.prog g_impl_KdOrder_2 := gok0
def h_impl_KdOrder_2 : List (Nat × HSpec) := []
theorem hok_impl_KdOrder_2 : HOK Try.prog h_impl_KdOrder_2 := hok0
theorem c_impl_KdOrder_2 (p : Pt)  : ICall Try.prog 75 [encP p] (.bool true) := by
  refine icall_V (G := g_impl_KdOrder_2) (H := []) [] tabOK mixed gok_impl_KdOrder_2 hok_impl_KdOrder_2 Try.func75 rfl Try.ntmps75 Try.results75 rfl (by kernel_rfl) fun F hN hlen => ?_
  simp only [V_seq, V_ret, V_region, W_nil, W_cons, effOp2, KN_seq, KXr_nil, QE, effOp, effPure, effNew, effBox, skipE, pureV, solid, IV.cells, ofC, strip, lkT, lkH, ISt.app, opI, gO, gB, allB, gval, wrapG, dstOK, setD, mentTm, mentHp, IV.ment, IV.mentL, oneI, clean, enumT, Gives, Ideal.Fin, conv, conv0, Op.operands, reduceIte, reduceCtorEq, cond_true, Bool.or_false, Bool.and_true, Nat.reduceLT, Nat.reduceEqDiff, and_self, implies_true, List.nil_append, List.cons_append, List.append_nil, List.all_cons, List.all_nil, hN, encP]
def sp_impl_KdOrder_2 : PSpec := ⟨fun xs => match xs with | [.agg [.num .i64 p1, .num .i64 p2]] => True | _ => False, fun xs => match xs with | [.agg [.num _ p1, .num _ p2]] => (fun (p : Pt) => .bool true) (p1, p2) | _ => .junk, false⟩
theorem gk_impl_KdOrder_2 : ∀ args, sp_impl_KdOrder_2.pre args → ICall Try.prog 75 args (sp_impl_KdOrder_2.val args) := by
  intro args h
  unfold sp_impl_KdOrder_2 at h ⊢; simp only at h ⊢; split at h
  · exact c_impl_KdOrder_2 (_, _)
  · exact h.elim
theorem en_impl_KdOrder_2 : Enters Try.prog 75 := enters_of Try.func75 (by kernel_rfl) rfl

def g_impl_picked : List (Nat × PSpec) := [(75, sp_impl_KdOrder_2)]
theorem gok_impl_picked : GOK Try.prog g_impl_picked := gok_cons gk_impl_KdOrder_2 en_impl_KdOrder_2 (gok0)
theorem lk_impl_picked_impl_KdOrder_2 : lkG g_impl_picked 75 = sp_impl_KdOrder_2 := rfl
def h_impl_picked : List (Nat × HSpec) := []
theorem hok_impl_picked : HOK Try.prog h_impl_picked := hok0
theorem c_impl_picked (l : List Pt) (hsz : l.length ≤ 1000) : HCall Try.prog 74 [.sl 2 (encPs l), .clo 75 []] (sm ([])) (.ref 0 0 l.length false) (sm ([(0, .arr 1 3 (encN (List.range l.length)))])) := by
  refine hcall_V (G := g_impl_picked) (H := []) [] tabOK mixed gok_impl_picked hok_impl_picked Try.func74 rfl Try.ntmps74 Try.results74 rfl (by kernel_rfl) fun F hN hlen => ?_
  simp only [sm]
  have el := len_encPs l
  simp only [V_seq, V_block, V_region, W_nil, W_cons, effOp2, KN_seq, effOp, effPure, effNew, effMake, skipE, pureV, lenV, ofC, strip, lkT, ISt.app, opI, gO, gB, allB, gval, wrapG, dstOK, setD, mentTm, mentHp, IV.ment, IV.mentL, zeroElt, noId', enumT, Op.operands, Call.operands, List.append_toArray, reduceIte, reduceCtorEq, cond_true, Bool.or_false, Nat.reduceLT, Nat.reduceLeDiff, Nat.reduceEqDiff, Nat.zero_add, ne_eq, not_false_eq_true, true_and, and_self, implies_true, List.nil_append, List.cons_append, List.append_nil, tab3, tab23, tab25, hN, el]
  refine ⟨⟨by omega, by omega, by omega, by omega, rfl⟩, ?_⟩
  refine V_loop (α := Nat) ⟨tabOK, mixed, gok_impl_picked, hok_impl_picked⟩ (by kernel_rfl) (fun i => i ≤ l.length) (fun i => ⟨[(13, .num .i64 i), (12, .num .i64 l.length), (11, .sl 2 (encPs l)), (5, .ref 10 0 i true), (0, .sl 2 (encPs l)), (1, .clo 75 [])], [(10, some (.arr 1 3 (encN (List.range i))))]⟩) (fun i => l.length - i) 0 id (Nat.zero_le _) (by simp [SLe, SLe0, convTm, convHp, convB, conv, conv0, convL, lkT, lkH, clean, encN, encI]) ?_
  intro i hi
  have er : (encN (List.range i)).length = i := by rw [len_encN, List.length_range]
  have tr : (encN (List.range i)).take i = encN (List.range i) := List.take_of_length_le (by omega)
  have hx : ∃ k ty es, IBlk.arr 1 3 (encN (List.range i)) = IBlk.arr k ty es := ⟨_, _, _, rfl⟩
  simp only [V_seq, V_region, V_cond, W_nil, W_cons, effOp2, KN_seq, asB, effOp, effPure, pureV, binV, strip, lkT, ISt.app, opI, gO, gB, allB, gval, wrapG, dstOK, setD, Op.operands, reduceIte, reduceCtorEq, Nat.reduceLT, Nat.reduceEqDiff, true_and, and_self, implies_true, List.nil_append, List.cons_append, hN]
  refine brW_some (fun h => ?_) (fun h => ?_)
  · have hi' : i < l.length := by simpa using h
    have g := getD_encPs hi'
    have hw := wr_succ hi' (by rw [maxLen_eq]; omega)
    have hs : encN (List.range (i + 1)) = encN (List.range i) ++ [.num .i64 ((i : Nat) : Int)] := by rw [List.range_succ, ← encN_app]; rfl
    simp only [V_seq, V_skip, V_block, V_region, V_cond, brW_true, W_nil, W_cons, effOp2, KN_seq, KN_block, KN_back, asB, effOp, effPure, effNew, effAlloc, effBuildSlice, effFrz, frz, tmpsOf, effStore, effAppend, effZeros, effCall, giveUp, hasAll, skipE, pureV, storeV, srcV, refId, binV, partV, eltV, loadV, iaddrV, over, solid, IV.cells, ofC, strip, lkT, lkH, ISt.app, opI, gO, gB, allB, gval, wrapG, dstOK, setD, mentTm, mentHp, IV.ment, IV.mentL, partsL, eltsI, eltI, oneI, noId', lendV, lendP, lent, lentP, idsV, idsL, lkHS, flat, clean, callArgs, callFn, allLent, Op.operands, reduceIte, reduceCtorEq, cond_true, Bool.or_false, Bool.and_true, Bool.not_true, Nat.reduceAdd, Nat.reduceMul, Nat.reduceLT, Nat.reduceLeDiff, Nat.reduceEqDiff, Nat.reduceBEq, Nat.zero_add, ne_eq, not_false_eq_true, true_and, and_true, and_false, and_self, implies_true, forall_const, List.map_cons, List.map_nil, List.nil_append, List.cons_append, List.append_nil, List.all_cons, List.all_nil, Option.some.injEq, List.getD_cons_zero, List.length_cons, List.length_nil, List.take_succ_cons, List.take_zero, List.take_nil, List.drop_succ_cons, List.drop_zero, List.drop_nil, ex_clo, or_self, tab3, tab23, tab25, tab30, hN, Int.toNat_natCast, lk_impl_picked_impl_KdOrder_2, sp_impl_KdOrder_2, el, er, tr, g, hw]
    repeat refine And.intro (by first | omega | (simp; done) | (simp; omega)) ?_
    refine ⟨i + 1, fun x => if x = 10 then 24 else x, by simp only []; omega, by simp only []; omega, ?_⟩
    simp only [hs]
    simp [SLe, SLe0, convTm, convHp, convB, conv, conv0, convL, lkT, lkH, clean]
    exact ⟨(List.take_of_length_le (by rw [List.length_append]; exact Nat.le_refl _)).symm, fun id h1 _ => by omega⟩
  · have hie : i = l.length := by simp at h; omega
    subst hie
    simp only [V_seq, V_ret, V_exit, V_region, W_nil, W_cons, effOp2, KN_seq, KXr_nil, KXe_nil, KXe_seq, KXe_block, KXe_back, QE, effOp, effPure, Option.isSome_some, pureV, sliceV, lenV, strip, lkT, lkH, ISt.app, opI, gO, gB, allB, gval, wrapG, dstOK, setD, conv, conv0, Op.operands, Call.operands, List.append_toArray, Array.append_empty, Option.toArray_none, Option.toArray_some, reduceIte, reduceCtorEq, Nat.reduceLT, Nat.reduceEqDiff, ne_eq, not_false_eq_true, true_and, and_true, and_self, false_implies, implies_true, forall_const, List.map_cons, List.map_nil, List.nil_append, List.cons_append, Option.map_some, Option.map_none, Bool.false_eq_true, tab3, tab25, hN, Int.toNat_natCast, FinH, resA, resV, SLe, SLe0, convTm, convHp, convB]
    repeat refine And.intro (by first | omega | (simp; done) | (simp; omega)) ?_
    refine ⟨fun x => if x = 0 then 10 else x, ?_⟩
    simp [convL]
    intro id h1 _ h3; omega
def hs_impl_picked : HSpec := ⟨[true, false], fun xs hp => match xs, hp with | [.sl 2 es, .clo f []], [] => (isPs es) ∧ (f = 75) ∧ ((fun (l : List Pt) => l.length ≤ 1000) (toPs es)) | _, _ => False, fun xs hp => match xs, hp with | [.sl 2 es, .clo f []], [] => (fun (l : List Pt) => (.ref 0 0 l.length false : IV)) (toPs es) | _, _ => .junk, fun xs hp => match xs, hp with | [.sl 2 es, .clo f []], [] => (fun (l : List Pt) => ([(0, .arr 1 3 (encN (List.range l.length)))] : List (Nat × IBlk))) (toPs es) | _, _ => []⟩
theorem hk_impl_picked : ∀ args hp, hs_impl_picked.pre args hp → HCall Try.prog 74 args (sm hp) (hs_impl_picked.val args hp) (sm (hs_impl_picked.hval args hp)) := by
  intro args hp h
  unfold hs_impl_picked at h ⊢; simp only at h ⊢; split at h
  · obtain ⟨h1, rfl, h2⟩ := h; obtain ⟨l, rfl⟩ := isP_ex h1; rw [toPs_enc] at *; exact c_impl_picked l h2
  · exact h.elim
theorem en_impl_picked : Enters Try.prog 74 := enters_of Try.func74 (by kernel_rfl) rfl

def kdV (l : List Pt) : List Nat := if okPs l then kdAll l else []
def g_impl_KdOrder_h : List (Nat × PSpec) := [(66, sp_impl_listOk)]
theorem gok_impl_KdOrder_h : GOK Try.prog g_impl_KdOrder_h := gok_cons gk_impl_listOk en_impl_listOk (gok0)
theorem lk_impl_KdOrder_h_impl_listOk : lkG g_impl_KdOrder_h 66 = sp_impl_listOk := rfl
def h_impl_KdOrder_h : List (Nat × HSpec) := [(74, hs_impl_picked), (67, hs_impl_KdOrder_1)]
theorem hok_impl_KdOrder_h : HOK Try.prog h_impl_KdOrder_h := hok_cons hk_impl_picked en_impl_picked (hok_cons hk_impl_KdOrder_1 en_impl_KdOrder_1 (hok0))
theorem lh_impl_KdOrder_h_impl_listOk : lkHS h_impl_KdOrder_h 66 = none := rfl
theorem lh_impl_KdOrder_h_impl_picked : lkHS h_impl_KdOrder_h 74 = some hs_impl_picked := rfl
theorem lh_impl_KdOrder_h_impl_KdOrder_1 : lkHS h_impl_KdOrder_h 67 = some hs_impl_KdOrder_1 := rfl
theorem c_impl_KdOrder_h (l : List Pt) (hk : okPs l = true) : HCall Try.prog 16 [.sl 2 (encPs l)] (sm ([])) (.ref 0 0 l.length true) (sm ([(0, .arr 1 3 (encN (kdAll l)))])) := by
  refine hcall_V (G := g_impl_KdOrder_h) (H := h_impl_KdOrder_h) [(6, [(3, 3), (0, 2)])] tabOK mixed gok_impl_KdOrder_h hok_impl_KdOrder_h Try.func16 rfl Try.ntmps16 Try.results16 rfl (by kernel_rfl) fun F hN hlen => ?_
  simp only [sm]
  have hl := okPs_len hk
  have hl2 : l.length ≤ 1000 := by omega
  have el := len_encPs l
  have er : (encN (List.range l.length)).length = l.length := by rw [len_encN, List.length_range]
  have ko : kdOut l false (List.range l.length) [] 0 l.length = kdAll l := by simp [kdOut, kdAll]
  have kr := kdRow_len (l := l) (t := false) (L := List.range l.length) (off := 0) (n := l.length) (by simp)
  obtain ⟨R, hR⟩ : ∃ R, kdRow l false (List.range l.length) 0 l.length = R := ⟨_, rfl⟩
  rw [hR, List.length_range] at kr
  have eR := len_encN R
  have ek := len_encN (kdAll l)
  rw [kdAll_len] at ek
  have hrep : List.replicate (Int.toNat 0) ([IV.num .i64 0].headD .junk) = encN [] := rfl
  have hz : Int.toNat 0 = 0 := rfl
  have hel : encN [] = [] := rfl
  simp only [V_seq, V_skip, V_ret, V_region, V_draw, V_cond, brW_false, drawW, WS_nil, WS_cons, pairsOf, W_nil, W_cons, effOp2, effOp3, WI_nil, WI_cons, KN_seq, KXr_nil, QE, dynOK, indB, farB, seeB, see, isStore, freshB, freshK, freshK1, ownId, heapy, asB, effOp, effPure, effNew, effAlloc, effBox, effMake, effStore, effCall, giveUp, hasAll, Option.isSome_some, skipE, badE, pureV, storeV, partV, loadV, lenV, over, solid, IV.cells, ofC, strip, lkT, lkH, ISt.app, opI, gO, gB, allB, gval, wrapG, dstOK, setD, mentTm, mentHp, IV.ment, IV.mentL, zeroElt, oneI, noId', lendV, lendP, lent, lentP, idsV, idsL, flat, clean, callArgs, callFn, allLent, enumT, conv, conv0, convL, IBlk.shape, Op.operands, Call.operands, List.append_toArray, reduceIte, reduceCtorEq, cond_true, cond_false, Bool.or_false, Bool.or_true, Bool.and_true, Bool.and_false, Bool.not_true, Bool.not_false, Nat.reduceAdd, Nat.reduceSub, Nat.reduceMul, Nat.reduceLT, Nat.reduceLeDiff, Nat.reduceEqDiff, Nat.reduceBEq, Nat.add_zero, Nat.zero_add, ne_eq, not_false_eq_true, beq_self_eq_true, true_and, and_true, false_and, and_false, and_self, false_implies, implies_true, List.map_cons, List.map_nil, List.nil_append, List.cons_append, List.append_nil, List.all_cons, List.all_nil, Option.map_some, Option.map_none, List.getD_cons_zero, List.getD_cons_succ, List.length_cons, List.length_nil, List.take_succ_cons, List.take_zero, List.take_nil, List.drop_succ_cons, List.drop_zero, List.drop_nil, ex_clo, true_or, or_self, Bool.true_eq_false, Bool.false_eq_true, tab3, tab23, tab25, tab82, hN, isPs_enc, toPs_enc, FinH, resA, resV, SLe, SLe0, convTm, convHp, convB, sm, effH, effHs, keysIn, mkHC0, mkHC1, lendM, lentM, lentI, allHere, addIds, idsB, flatIds, reach, posn, renV, renL, renB, renH, numB, subHp, fwd, bk, bwd, nones, keyOK, noSl, noSlL, flatBs, List.contains, List.elem, Option.isSome_some, List.nodup_nil, List.nodup_cons, List.not_mem_nil, List.mem_cons, or_false, Option.getD_some, lk_impl_KdOrder_h_impl_listOk, sp_impl_listOk, lh_impl_KdOrder_h_impl_listOk, lh_impl_KdOrder_h_impl_picked, lh_impl_KdOrder_h_impl_KdOrder_1, hs_impl_picked, hs_impl_KdOrder_1, kdFn, kdHv, hk, hl2, el, er, ko, hR, hrep, isNs_enc, toNs_enc, eR, ek]
  have T : ∀ (M : List Nat) (k : Nat), M.length = k → encN M = (encN M).take k := fun M k h => (List.take_of_length_le (by rw [len_encN]; omega)).symm
  have lr : (List.range l.length).length = l.length := List.length_range
  refine ⟨⟨by omega, by omega, by omega, by omega, rfl⟩, T _ _ lr, ⟨⟨T _ _ lr, List.take_length.symm⟩, ⟨rfl, by omega, fun x hx => List.mem_range.1 hx, by omega⟩, T _ _ (kdAll_len l), T _ _ rfl⟩, fun z => if z = 0 then 2240 else z, ?_⟩
  simp [convL]
  intro id h1 _ h3; omega
def hs_impl_KdOrder_h : HSpec := ⟨[true], fun xs hp => match xs, hp with | [.sl 2 es], [] => (isPs es) ∧ ((fun (l : List Pt) => okPs l = true) (toPs es)) | _, _ => False, fun xs hp => match xs, hp with | [.sl 2 es], [] => (fun (l : List Pt) => (.ref 0 0 l.length true : IV)) (toPs es) | _, _ => .junk, fun xs hp => match xs, hp with | [.sl 2 es], [] => (fun (l : List Pt) => ([(0, .arr 1 3 (encN (kdAll l)))] : List (Nat × IBlk))) (toPs es) | _, _ => []⟩
theorem hk_impl_KdOrder_h : ∀ args hp, hs_impl_KdOrder_h.pre args hp → HCall Try.prog 16 args (sm hp) (hs_impl_KdOrder_h.val args hp) (sm (hs_impl_KdOrder_h.hval args hp)) := by
  intro args hp h
  unfold hs_impl_KdOrder_h at h ⊢; simp only at h ⊢; split at h
  · obtain ⟨h1, h2⟩ := h; obtain ⟨l, rfl⟩ := isP_ex h1; rw [toPs_enc] at *; exact c_impl_KdOrder_h l h2
  · exact h.elim
theorem en_impl_KdOrder_h : Enters Try.prog 16 := enters_of Try.func16 (by kernel_rfl) rfl

def g_impl_KdOrder_v : List (Nat × PSpec) := [(66, sp_impl_listOk)]
theorem gok_impl_KdOrder_v : GOK Try.prog g_impl_KdOrder_v := gok_cons gk_impl_listOk en_impl_listOk (gok0)
theorem lk_impl_KdOrder_v_impl_listOk : lkG g_impl_KdOrder_v 66 = sp_impl_listOk := rfl
def h_impl_KdOrder_v : List (Nat × HSpec) := [(74, hs_impl_picked)]
theorem hok_impl_KdOrder_v : HOK Try.prog h_impl_KdOrder_v := hok_cons hk_impl_picked en_impl_picked (hok0)
theorem lh_impl_KdOrder_v_impl_listOk : lkHS h_impl_KdOrder_v 66 = none := rfl
theorem lh_impl_KdOrder_v_impl_picked : lkHS h_impl_KdOrder_v 74 = some hs_impl_picked := rfl
theorem c_impl_KdOrder_v (l : List Pt) (hk : okPs l = true) : ICallF Try.prog 16 [.sl 2 (encPs l)] (.sl 1 (encN (kdAll l))) := by
  exact icallF_ref (c_impl_KdOrder_h l hk) (by rw [len_encN, kdAll_len]) (noSl_encN _)
def sp_impl_KdOrder_v : PSpec := ⟨fun xs => match xs with | [.sl 2 les] => isPs les ∧ ((fun (l : List Pt) => okPs l = true) (toPs les)) | _ => False, fun xs => match xs with | [.sl _ les] => (fun (l : List Pt) => .sl 1 (encN (kdAll l))) (toPs les) | _ => .junk, true⟩
theorem gk_impl_KdOrder_v : ∀ args, sp_impl_KdOrder_v.pre args → ICallF Try.prog 16 args (sp_impl_KdOrder_v.val args) ∧ ∀ id, (sp_impl_KdOrder_v.val args).ment id = false := by
  intro args h
  unfold sp_impl_KdOrder_v at h ⊢; simp only at h ⊢; split at h
  · obtain ⟨h0, h1⟩ := h
    obtain ⟨l0, rfl⟩ := isP_ex h0
    simp only [toPs_enc] at *
    exact ⟨c_impl_KdOrder_v _ h1, fun id => rfl⟩
  · exact h.elim
theorem en_impl_KdOrder_v : Enters Try.prog 16 := enters_of Try.func16 (by kernel_rfl) rfl

def g_impl_KdOrder_e0 : List (Nat × PSpec) := [(66, sp_impl_listOk)]
theorem gok_impl_KdOrder_e0 : GOK Try.prog g_impl_KdOrder_e0 := gok_cons gk_impl_listOk en_impl_listOk (gok0)
theorem lk_impl_KdOrder_e0_impl_listOk : lkG g_impl_KdOrder_e0 66 = sp_impl_listOk := rfl
def h_impl_KdOrder_e0 : List (Nat × HSpec) := [(74, hs_impl_picked), (67, hs_impl_KdOrder_1)]
theorem hok_impl_KdOrder_e0 : HOK Try.prog h_impl_KdOrder_e0 := hok_cons hk_impl_picked en_impl_picked (hok_cons hk_impl_KdOrder_1 en_impl_KdOrder_1 (hok0))
theorem lh_impl_KdOrder_e0_impl_listOk : lkHS h_impl_KdOrder_e0 66 = none := rfl
theorem lh_impl_KdOrder_e0_impl_picked : lkHS h_impl_KdOrder_e0 74 = some hs_impl_picked := rfl
theorem lh_impl_KdOrder_e0_impl_KdOrder_1 : lkHS h_impl_KdOrder_e0 67 = some hs_impl_KdOrder_1 := rfl
theorem c_impl_KdOrder_e0 (l : List Pt) (hk : okPs l = false) : ICall Try.prog 16 [.sl 2 (encPs l)] (.sl 1 []) := by
  refine icall_V (G := g_impl_KdOrder_e0) (H := h_impl_KdOrder_e0) [(6, [(3, 3), (0, 2)])] tabOK mixed gok_impl_KdOrder_e0 hok_impl_KdOrder_e0 Try.func16 rfl Try.ntmps16 Try.results16 rfl (by kernel_rfl) fun F hN hlen => ?_
  simp only [V_seq, V_ret, V_region, V_cond, brW_true, W_nil, W_cons, effOp2, KN_seq, KXr_nil, KXr_seq, QE, asB, effOp, effPure, effNew, effBox, effCall, giveUp, hasAll, skipE, pureV, partV, loadV, solid, IV.cells, ofC, strip, lkT, lkH, ISt.app, opI, gO, gB, allB, gval, wrapG, dstOK, setD, mentTm, mentHp, IV.ment, oneI, lendV, lendP, lent, lentP, idsV, idsL, flat, clean, callArgs, callFn, allLent, enumT, Gives, Ideal.Fin, conv, conv0, Op.operands, reduceIte, reduceCtorEq, cond_true, Bool.or_false, Bool.and_true, Bool.not_true, Bool.not_false, Nat.reduceLT, Nat.reduceLeDiff, Nat.reduceEqDiff, Nat.zero_add, and_self, implies_true, List.map_cons, List.map_nil, List.nil_append, List.cons_append, List.append_nil, List.all_cons, List.all_nil, List.getD_cons_zero, List.length_cons, List.length_nil, List.take_succ_cons, List.take_nil, List.drop_zero, ex_clo, or_self, tab23, hN, isPs_enc, toPs_enc, lk_impl_KdOrder_e0_impl_listOk, sp_impl_listOk, lh_impl_KdOrder_e0_impl_listOk, hk]
def sp_impl_KdOrder_e0 : PSpec := ⟨fun xs => match xs with | [.sl 2 les] => isPs les ∧ ((fun (l : List Pt) => okPs l = false) (toPs les)) | _ => False, fun xs => match xs with | [.sl _ les] => (fun (l : List Pt) => .sl 1 []) (toPs les) | _ => .junk, false⟩
theorem gk_impl_KdOrder_e0 : ∀ args, sp_impl_KdOrder_e0.pre args → ICall Try.prog 16 args (sp_impl_KdOrder_e0.val args) := by
  intro args h
  unfold sp_impl_KdOrder_e0 at h ⊢; simp only at h ⊢; split at h
  · obtain ⟨h0, h1⟩ := h
    obtain ⟨l0, rfl⟩ := isP_ex h0
    simp only [toPs_enc] at *
    exact c_impl_KdOrder_e0 _ h1
  · exact h.elim
theorem en_impl_KdOrder_e0 : Enters Try.prog 16 := enters_of Try.func16 (by kernel_rfl) rfl

def g_impl_KdOrder_e : List (Nat × PSpec) := [(66, sp_impl_listOk)]
theorem gok_impl_KdOrder_e : GOK Try.prog g_impl_KdOrder_e := gok_cons gk_impl_listOk en_impl_listOk (gok0)
theorem lk_impl_KdOrder_e_impl_listOk : lkG g_impl_KdOrder_e 66 = sp_impl_listOk := rfl
def h_impl_KdOrder_e : List (Nat × HSpec) := [(74, hs_impl_picked)]
theorem hok_impl_KdOrder_e : HOK Try.prog h_impl_KdOrder_e := hok_cons hk_impl_picked en_impl_picked (hok0)
theorem lh_impl_KdOrder_e_impl_listOk : lkHS h_impl_KdOrder_e 66 = none := rfl
theorem lh_impl_KdOrder_e_impl_picked : lkHS h_impl_KdOrder_e 74 = some hs_impl_picked := rfl
theorem c_impl_KdOrder_e (l : List Pt) (hk : okPs l = false) : ICallF Try.prog 16 [.sl 2 (encPs l)] (.sl 1 []) := by
  exact icallF_nil (c_impl_KdOrder_e0 l hk)
def sp_impl_KdOrder_e : PSpec := ⟨fun xs => match xs with | [.sl 2 les] => isPs les ∧ ((fun (l : List Pt) => okPs l = false) (toPs les)) | _ => False, fun xs => match xs with | [.sl _ les] => (fun (l : List Pt) => .sl 1 []) (toPs les) | _ => .junk, true⟩
theorem gk_impl_KdOrder_e : ∀ args, sp_impl_KdOrder_e.pre args → ICallF Try.prog 16 args (sp_impl_KdOrder_e.val args) ∧ ∀ id, (sp_impl_KdOrder_e.val args).ment id = false := by
  intro args h
  unfold sp_impl_KdOrder_e at h ⊢; simp only at h ⊢; split at h
  · obtain ⟨h0, h1⟩ := h
    obtain ⟨l0, rfl⟩ := isP_ex h0
    simp only [toPs_enc] at *
    exact ⟨c_impl_KdOrder_e _ h1, fun id => rfl⟩
  · exact h.elim
theorem en_impl_KdOrder_e : Enters Try.prog 16 := enters_of Try.func16 (by kernel_rfl) rfl

def g_impl_KdOrder : List (Nat × PSpec) := [(66, sp_impl_listOk)]
theorem gok_impl_KdOrder : GOK Try.prog g_impl_KdOrder := gok_cons gk_impl_listOk en_impl_listOk (gok0)
theorem lk_impl_KdOrder_impl_listOk : lkG g_impl_KdOrder 66 = sp_impl_listOk := rfl
def h_impl_KdOrder : List (Nat × HSpec) := [(74, hs_impl_picked)]
theorem hok_impl_KdOrder : HOK Try.prog h_impl_KdOrder := hok_cons hk_impl_picked en_impl_picked (hok0)
theorem lh_impl_KdOrder_impl_listOk : lkHS h_impl_KdOrder 66 = none := rfl
theorem lh_impl_KdOrder_impl_picked : lkHS h_impl_KdOrder 74 = some hs_impl_picked := rfl
theorem c_impl_KdOrder (l : List Pt)  : ICall Try.prog 16 [.sl 2 (encPs l)] (.sl 1 (encN (kdV l))) := by
  cases hk : okPs l with
  | true =>
    have e : kdV l = kdAll l := by rw [kdV, hk]; rfl
    rw [e]
    exact icall_of_F (c_impl_KdOrder_v l hk) (fun id => rfl)
  | false =>
    have e : kdV l = [] := by rw [kdV, hk]; rfl
    rw [e]
    exact c_impl_KdOrder_e0 l hk
def sp_impl_KdOrder : PSpec := ⟨fun xs => match xs with | [.sl 2 les] => isPs les | _ => False, fun xs => match xs with | [.sl _ les] => (fun (l : List Pt) => .sl 1 (encN (kdV l))) (toPs les) | _ => .junk, false⟩
theorem gk_impl_KdOrder : ∀ args, sp_impl_KdOrder.pre args → ICall Try.prog 16 args (sp_impl_KdOrder.val args) := by
  intro args h
  unfold sp_impl_KdOrder at h ⊢; simp only at h ⊢; split at h
  · have h0 := h
    obtain ⟨l0, rfl⟩ := isP_ex h0
    simp only [toPs_enc] at *
    exact c_impl_KdOrder _ 
  · exact h.elim
theorem en_impl_KdOrder : Enters Try.prog 16 := enters_of Try.func16 (by kernel_rfl) rfl

end Go.Proofs.Ytemppebemahkoaa
