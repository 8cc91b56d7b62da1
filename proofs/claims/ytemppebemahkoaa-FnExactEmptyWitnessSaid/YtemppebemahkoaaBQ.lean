/- Contracts: points of fractions in order: sorted, compacted, inserted. -/
import Derived.Test.YtemppebemahkoaaB2
import Derived.Test.YtemppebemahkoaaCc
import Derived.Test.YtemppebemahkoaaLay
import Derived.Test.YtemppebemahkoaaPl16
set_option linter.unusedVariables false
set_option linter.unusedSimpArgs false
set_option maxHeartbeats 1600000
set_option maxRecDepth 100000
namespace Go.Proofs.Ytemppebemahkoaa
open Go Go.Ideal Go.Pl Go.Sort

/-- A point of fractions as a value of the program's. -/
def valQ (q : Qd) : Value := .agg #[.int .i64 q.1.1, .int .i64 q.1.2, .int .i64 q.2.1, .int .i64 q.2.2]
def valG (g : GQ) : Value := valQ g.1
def encG (g : GQ) : IV := encQ g.1
theorem encG_ok : Enc 4 encG valG := ⟨fun c x v => by simp only [encG, encQ, RepV, RepL, valG, valQ]; constructor
                                                      · rintro ⟨vs, rfl, _, _, rfl, rfl, _, _, rfl, rfl, _, _, rfl, rfl, _, _, rfl, rfl, rfl⟩; rfl
                                                      · rintro rfl; exact ⟨_, rfl, _, _, rfl, rfl, _, _, rfl, rfl, _, _, rfl, rfl, _, _, rfl, rfl, rfl⟩,
  fun x => by refine ⟨rfl, ?_, rfl, by decide⟩; intro u hu; simp [valG, valQ, Value.cells] at hu; rcases hu with rfl | rfl | rfl | rfl <;> rfl,
  fun x id => by simp [encG, encQ, IV.ment, IV.mentL]⟩
def cmpRt (r s : Pt) : Int := cmpI (r.1 * s.2) (s.1 * r.2)
def cmpQ (p q : Qd) : Int := orI [cmpRt p.1 q.1, cmpRt p.2 q.2]
theorem cmp2_neg (a b c d : Int) : orI [cmpI a b, cmpI c d] < 0 ↔ (a < b ∨ (a = b ∧ c < d)) := by
  simp only [orI, cmpI]
  rcases Int.lt_trichotomy a b with h | h | h
  · simp [h]
  · subst h
    rcases Int.lt_trichotomy c d with k | k | k
    · simp [k]
    · subst k; simp
    · simp [show ¬ c < d by omega, k]
  · simp [show ¬ a < b by omega, h, show ¬ a = b by omega]
theorem cmpQ_neg (p q : Qd) : decide (cmpQ p q < 0) = ltQ p q := by
  rw [Bool.eq_iff_iff, decide_eq_true_iff]
  simp only [ltQ, ltR, Bool.or_eq_true, Bool.and_eq_true, decide_eq_true_eq, cmpQ, cmpRt]
  exact cmp2_neg _ _ _ _
instance : Inhabited GQ := ⟨⟨((0, 1), (0, 1)), by unfold goodQ okR; simp⟩⟩
def cmpG (p q : GQ) : Int := cmpQ p.1 q.1
theorem ltOf_cmpG (p q : GQ) : Proofs.ltOf cmpG p q = ltG p q := cmpQ_neg p.1 q.1
theorem swoG : SWO (Proofs.ltOf cmpG) where
  irrefl x := by rw [ltOf_cmpG]; exact totG.irrefl x
  trans x y z h1 h2 := by rw [ltOf_cmpG] at *; exact totG.trans _ _ _ h1 h2
  ntrans x y z h1 h2 := by
    rw [ltOf_cmpG] at *
    cases hc : ltG x z with
    | false => rfl
    | true =>
      cases hyx : ltG y x with
      | true => have := totG.trans _ _ _ hyx hc; rw [this] at h2; cases h2
      | false => have := totG.total _ _ h1 hyx; subst this; rw [hc] at h2; cases h2
theorem sort_ratpoint : SortC Try.prog 140 4 valG cmpG :=
  sortC_many Try.sortQ (by decide) (tabOK 60 rfl).agg (tabOK 60 rfl).size valG encG_ok.ok cmpG swoG (fun x y h1 h2 => by rw [ltOf_cmpG] at h1 h2; exact totG.total _ _ h1 h2)
theorem sorted_leG (l : List GQ) : l.mergeSort (fun x y => !Proofs.ltOf cmpG y x) = l.mergeSort (fun x y => !ltG y x) := by
  congr 1
  funext x y
  rw [ltOf_cmpG]
theorem mul_bd {x y : Int} (hx : -20000000000 ≤ x ∧ x ≤ 20000000000) (hy : 0 < y ∧ y ≤ 20000000) : IntKind.i64.wrap (x * y) = x * y := by
  obtain ⟨h1, h2⟩ := hy
  have := mulB (A := 20000000000) (B := 20000000) (x := x) (y := y) hx ⟨by omega, by omega⟩
  exact wr (by omega) (by omega)
def g_impl_Rat_compare : List (Nat × PSpec) := [(73, sp_cmp_Compare_int)]
theorem gok_impl_Rat_compare : GOK Try.prog g_impl_Rat_compare := gok_cons gk_cmp_Compare_int en_cmp_Compare_int (gok0)
theorem lk_impl_Rat_compare_cmp_Compare_int : lkG g_impl_Rat_compare 73 = sp_cmp_Compare_int := rfl
def h_impl_Rat_compare : List (Nat × HSpec) := []
theorem hok_impl_Rat_compare : HOK Try.prog h_impl_Rat_compare := hok0
theorem c_impl_Rat_compare (r : Pt) (s : Pt) (hr : okR r) (hs : okR s) : ICall Try.prog 200 [encP r, encP s] (.num .i64 (cmpRt r s)) := by
  refine icall_V (G := g_impl_Rat_compare) (H := []) [] tabOK mixed gok_impl_Rat_compare hok_impl_Rat_compare Try.func200 rfl Try.ntmps200 Try.results200 rfl (by kernel_rfl) fun F hN hlen => ?_
  have w1 : IntKind.i64.wrap (r.1 * s.2) = r.1 * s.2 := mul_bd ⟨hr.2.2.2.1, hr.2.2.2.2⟩ ⟨hs.1, hs.2.1⟩
  have w2 : IntKind.i64.wrap (s.1 * r.2) = s.1 * r.2 := mul_bd ⟨hs.2.2.2.1, hs.2.2.2.2⟩ ⟨hr.1, hr.2.1⟩
  simp only [V_seq, V_ret, V_region, W_nil, W_cons, effOp2, KN_seq, KXr_nil, QE, effOp, effPure, effNew, effBox, effCall, giveUp, hasAll, skipE, pureV, binV, partV, loadV, faddrV, solid, IV.cells, ofC, strip, lkT, lkH, ISt.app, opI, gO, gB, allB, gval, wrapG, dstOK, setD, mentTm, mentHp, IV.ment, IV.mentL, oneI, lendV, lendP, lent, lentP, idsV, idsL, lkHS, flat, clean, callArgs, callFn, allLent, enumT, Gives, Ideal.Fin, conv, conv0, IBlk.shape, Op.operands, reduceIte, reduceCtorEq, cond_true, Bool.or_false, Bool.and_true, Bool.not_true, Nat.reduceAdd, Nat.reduceLT, Nat.reduceLeDiff, Nat.reduceEqDiff, Nat.reduceBEq, Nat.add_zero, Nat.zero_add, and_self, implies_true, List.map_cons, List.map_nil, List.nil_append, List.cons_append, List.append_nil, List.all_cons, List.all_nil, Option.map_some, List.getD_cons_zero, List.getD_cons_succ, List.length_cons, List.length_nil, List.take_succ_cons, List.take_zero, List.take_nil, List.drop_succ_cons, List.drop_zero, ex_clo, or_self, tab3, tab58, hN, encP, lk_impl_Rat_compare_cmp_Compare_int, sp_cmp_Compare_int, w1, w2, cmpRt]
def sp_impl_Rat_compare : PSpec := ⟨fun xs => match xs with | [.agg [.num .i64 r1, .num .i64 r2], .agg [.num .i64 s1, .num .i64 s2]] => ((fun (r : Pt) (s : Pt) => okR r) (r1, r2) (s1, s2)) ∧ ((fun (r : Pt) (s : Pt) => okR s) (r1, r2) (s1, s2)) | _ => False, fun xs => match xs with | [.agg [.num _ r1, .num _ r2], .agg [.num _ s1, .num _ s2]] => (fun (r : Pt) (s : Pt) => .num .i64 (cmpRt r s)) (r1, r2) (s1, s2) | _ => .junk, false⟩
theorem gk_impl_Rat_compare : ∀ args, sp_impl_Rat_compare.pre args → ICall Try.prog 200 args (sp_impl_Rat_compare.val args) := by
  intro args h
  unfold sp_impl_Rat_compare at h ⊢; simp only at h ⊢; split at h
  · obtain ⟨h0, h1⟩ := h
    simp only [toPs_enc] at *
    exact c_impl_Rat_compare (_, _) (_, _) h0 h1
  · exact h.elim
theorem en_impl_Rat_compare : Enters Try.prog 200 := enters_of Try.func200 (by kernel_rfl) rfl

def g_impl_RatPoint_compare : List (Nat × PSpec) := [(200, sp_impl_Rat_compare), (71, sp_cmp_Or_int)]
theorem gok_impl_RatPoint_compare : GOK Try.prog g_impl_RatPoint_compare := gok_cons gk_impl_Rat_compare en_impl_Rat_compare (gok_cons gk_cmp_Or_int en_cmp_Or_int (gok0))
theorem lk_impl_RatPoint_compare_impl_Rat_compare : lkG g_impl_RatPoint_compare 200 = sp_impl_Rat_compare := rfl
theorem lk_impl_RatPoint_compare_cmp_Or_int : lkG g_impl_RatPoint_compare 71 = sp_cmp_Or_int := rfl
def h_impl_RatPoint_compare : List (Nat × HSpec) := []
theorem hok_impl_RatPoint_compare : HOK Try.prog h_impl_RatPoint_compare := hok0
theorem c_impl_RatPoint_compare (p : Qd) (q : Qd) (hp : goodQ p) (hq : goodQ q) : ICall Try.prog 141 [encQ p, encQ q] (.num .i64 (cmpQ p q)) := by
  refine icall_V (G := g_impl_RatPoint_compare) (H := []) [(1, [(0, 4), (2, 4), (4, 5), (4, 6), (4, 7), (4, 8), (0, 9), (1, 9), (2, 9), (3, 9), (5, 9), (7, 9), (0, 10), (1, 10), (2, 10), (3, 10), (5, 10), (6, 10), (7, 10), (8, 10), (0, 11), (1, 11), (2, 11), (3, 11), (4, 11), (5, 11), (6, 11), (7, 11), (8, 11)])] tabOK mixed gok_impl_RatPoint_compare hok_impl_RatPoint_compare Try.func141 rfl Try.ntmps141 Try.results141 rfl (by kernel_rfl) fun F hN hlen => ?_
  have p1 := hp.1
  have p2 := hp.2
  have q1 := hq.1
  have q2 := hq.2
  simp only [V_seq, V_ret, V_region, V_draw, drawW, WS_nil, pairsOf, W_nil, W_cons, effOp2, effOp3, WI_nil, WI_cons, KN_seq, KXr_nil, QE, dynOK, indB, farB, seeB, see, isStore, freshB, freshK, freshK1, heapy, effOp, effPure, effNew, effBox, effBuildSlice, effFrz, frz, tmpsOf, effCall, giveUp, hasAll, Option.isSome_some, skipE, pureV, partV, loadV, faddrV, solid, IV.cells, ofC, strip, lkT, lkH, ISt.app, opI, gO, gB, allB, gval, wrapG, dstOK, setD, mentTm, mentHp, IV.ment, IV.mentL, partsL, eltsI, eltI, oneI, noId', lendV, lendP, lent, lentP, idsV, idsL, lkHS, flat, clean, callArgs, callFn, allLent, enumT, Gives, Ideal.Fin, conv, conv0, IBlk.shape, Op.operands, Call.operands, List.append_toArray, reduceIte, reduceCtorEq, cond_true, cond_false, Bool.or_false, Bool.or_true, Bool.and_true, Bool.and_false, Bool.and_eq_true, Bool.not_true, Bool.not_false, Nat.reduceAdd, Nat.reduceMul, Nat.reduceLT, Nat.reduceLeDiff, Nat.reduceEqDiff, Nat.reduceBEq, Nat.add_zero, Nat.zero_add, ne_eq, not_false_eq_true, beq_self_eq_true, and_true, and_false, and_self, implies_true, List.map_cons, List.map_nil, List.nil_append, List.cons_append, List.append_nil, List.all_cons, List.all_nil, Option.map_some, List.getD_cons_zero, List.getD_cons_succ, List.length_cons, List.length_nil, List.take_succ_cons, List.take_zero, List.take_nil, List.drop_succ_cons, List.drop_zero, ex_clo, or_self, tab3, tab25, tab58, tab60, hN, pe, encQ, isIs_nil, toIs_nil, isIs_cons, toIs_cons, lk_impl_RatPoint_compare_impl_Rat_compare, lk_impl_RatPoint_compare_cmp_Or_int, sp_impl_Rat_compare, sp_cmp_Or_int, p1, p2, q1, q2, cmpQ]
def sp_impl_RatPoint_compare : PSpec := ⟨fun xs => match xs with | [.agg [.num .i64 p1, .num .i64 p2, .num .i64 p3, .num .i64 p4], .agg [.num .i64 q1, .num .i64 q2, .num .i64 q3, .num .i64 q4]] => ((fun (p : Qd) (q : Qd) => goodQ p) ((p1, p2), (p3, p4)) ((q1, q2), (q3, q4))) ∧ ((fun (p : Qd) (q : Qd) => goodQ q) ((p1, p2), (p3, p4)) ((q1, q2), (q3, q4))) | _ => False, fun xs => match xs with | [.agg [.num _ p1, .num _ p2, .num _ p3, .num _ p4], .agg [.num _ q1, .num _ q2, .num _ q3, .num _ q4]] => (fun (p : Qd) (q : Qd) => .num .i64 (cmpQ p q)) ((p1, p2), (p3, p4)) ((q1, q2), (q3, q4)) | _ => .junk, false⟩
theorem gk_impl_RatPoint_compare : ∀ args, sp_impl_RatPoint_compare.pre args → ICall Try.prog 141 args (sp_impl_RatPoint_compare.val args) := by
  intro args h
  unfold sp_impl_RatPoint_compare at h ⊢; simp only at h ⊢; split at h
  · obtain ⟨h0, h1⟩ := h
    simp only [toPs_enc] at *
    exact c_impl_RatPoint_compare ((_, _), (_, _)) ((_, _), (_, _)) h0 h1
  · exact h.elim
theorem en_impl_RatPoint_compare : Enters Try.prog 141 := enters_of Try.func141 (by kernel_rfl) rfl


theorem encQs_off (l : List GQ) : encQs (offG l) = l.map encG := by
  simp [encQs, offG, encG, Function.comp_def]
def g_slices_SortFunc_impl_RatPoint_impl_RatPoint : List (Nat × PSpec) := []
theorem gok_slices_SortFunc_impl_RatPoint_impl_RatPoint : GOK Try.prog g_slices_SortFunc_impl_RatPoint_impl_RatPoint := gok0
def h_slices_SortFunc_impl_RatPoint_impl_RatPoint : List (Nat × HSpec) := []
theorem hok_slices_SortFunc_impl_RatPoint_impl_RatPoint : HOK Try.prog h_slices_SortFunc_impl_RatPoint_impl_RatPoint := hok0
theorem c_slices_SortFunc_impl_RatPoint_impl_RatPoint (l : List Qd) (full : Bool) (hg : ∀ q ∈ l, goodQ q) (hsz : l.length ≤ 1000000) : HCall Try.prog 140 [.ref 1000 0 l.length full, .clo 141 []] (sm ([(1000, .arr 4 60 (encQs l))])) (.tup []) (sm ([(1000, .arr 4 60 (encQs (sortQ l)))])) := by
  obtain ⟨m, hm⟩ : ∃ m, subQ l = m := ⟨_, rfl⟩
  have ho : offG m = l := by rw [← hm]; exact off_sub hg
  have hml : m.length = l.length := by rw [← ho, off_len]
  have := sort_hcall sort_ratpoint encG_ok (by decide) en_impl_RatPoint_compare (caps := []) rfl (fun x y => c_impl_RatPoint_compare x.1 y.1 x.2 y.2) m 0 l.length full (by omega) (by omega) 60
  rw [sorted_leG] at this
  have e1 : List.take 0 m ++ ((List.drop 0 m).take l.length).mergeSort (fun x y => !ltG y x) ++ List.drop (0 + l.length) m = m.mergeSort (fun x y => !ltG y x) := by
    rw [← hml]; simp
  rw [e1, ← encQs_off, ← encQs_off, ho] at this
  have e2 : offG (m.mergeSort fun x y => !ltG y x) = sortQ l := by rw [sortQ, hm]
  rw [e2] at this
  exact this
def hs_slices_SortFunc_impl_RatPoint_impl_RatPoint : HSpec := ⟨[false, false], fun xs hp => match xs, hp with | [.ref 1000 0 n full, .clo g []], [(1000, .arr 4 ty es)] => (isQs es) ∧ (ty = 60) ∧ (n = es.length) ∧ (g = 141) ∧ ((fun (l : List Qd) (full : Bool) => ∀ q ∈ l, goodQ q) (toQs es) full) ∧ ((fun (l : List Qd) (full : Bool) => l.length ≤ 1000000) (toQs es) full) | _, _ => False, fun xs hp => match xs, hp with | [.ref 1000 0 n full, .clo g []], [(1000, .arr 4 ty es)] => (fun (l : List Qd) (full : Bool) => (.tup [] : IV)) (toQs es) full | _, _ => .junk, fun xs hp => match xs, hp with | [.ref 1000 0 n full, .clo g []], [(1000, .arr 4 ty es)] => (fun (l : List Qd) (full : Bool) => ([(1000, .arr 4 60 (encQs (sortQ l)))] : List (Nat × IBlk))) (toQs es) full | _, _ => []⟩
theorem hk_slices_SortFunc_impl_RatPoint_impl_RatPoint : ∀ args hp, hs_slices_SortFunc_impl_RatPoint_impl_RatPoint.pre args hp → HCall Try.prog 140 args (sm hp) (hs_slices_SortFunc_impl_RatPoint_impl_RatPoint.val args hp) (sm (hs_slices_SortFunc_impl_RatPoint_impl_RatPoint.hval args hp)) := by
  intro args hp h
  unfold hs_slices_SortFunc_impl_RatPoint_impl_RatPoint at h ⊢; simp only at h ⊢; split at h
  · obtain ⟨h1, rfl, rfl, rfl, h2, h3⟩ := h; obtain ⟨l, rfl⟩ := isQ_ex h1; rw [toQs_enc] at *; rw [len_encQs]; exact c_slices_SortFunc_impl_RatPoint_impl_RatPoint l _ h2 h3
  · exact h.elim
theorem en_slices_SortFunc_impl_RatPoint_impl_RatPoint : Enters Try.prog 140 := enters_of Try.func140 (by kernel_rfl) rfl


def g_slices_Clip_impl_RatPoint_impl_RatPoint : List (Nat × PSpec) := []
theorem gok_slices_Clip_impl_RatPoint_impl_RatPoint : GOK Try.prog g_slices_Clip_impl_RatPoint_impl_RatPoint := gok0
def h_slices_Clip_impl_RatPoint_impl_RatPoint : List (Nat × HSpec) := []
theorem hok_slices_Clip_impl_RatPoint_impl_RatPoint : HOK Try.prog h_slices_Clip_impl_RatPoint_impl_RatPoint := hok0
theorem c_slices_Clip_impl_RatPoint_impl_RatPoint (l : List Qd) (n : Nat) (full : Bool) (hn : n ≤ l.length) : HCall Try.prog 142 [.ref 1000 0 n full] (sm ([(1000, .arr 4 60 (encQs l))])) (.ref 1000 0 n false) (sm ([(1000, .arr 4 60 (encQs l))])) := by
  refine hcall_V (G := g_slices_Clip_impl_RatPoint_impl_RatPoint) (H := []) [] tabOK mixed gok_slices_Clip_impl_RatPoint_impl_RatPoint hok_slices_Clip_impl_RatPoint_impl_RatPoint Try.func142 rfl Try.ntmps142 Try.results142 rfl (by kernel_rfl) fun F hN hlen => ?_
  simp only [sm]
  simp only [V_seq, V_ret, V_region, W_nil, W_cons, effOp2, KN_seq, KXr_nil, QE, effOp, effPure, Option.isSome_some, pureV, sliceV, lenV, ofC, strip, lkT, lkH, ISt.app, opI, gO, gB, allB, gval, wrapG, dstOK, setD, enumT, conv, conv0, Op.operands, Call.operands, List.append_toArray, Array.append_empty, Option.toArray_none, Option.toArray_some, reduceIte, reduceCtorEq, Nat.reduceLT, Nat.reduceEqDiff, ne_eq, not_false_eq_true, true_and, and_true, and_self, false_implies, implies_true, forall_const, List.map_cons, List.map_nil, List.nil_append, List.cons_append, Option.map_some, Option.map_none, Bool.false_eq_true, tab51, tab60, hN, Int.toNat_natCast, FinH, resA, resV, SLe, SLe0, convTm, convHp, convB]
  exact ⟨⟨by omega, by omega⟩, fun i => i, by simp, fun _ _ _ => rfl⟩
def hs_slices_Clip_impl_RatPoint_impl_RatPoint : HSpec := ⟨[false], fun xs hp => match xs, hp with | [.ref 1000 0 n full], [(1000, .arr 4 ty es)] => (isQs es) ∧ (ty = 60) ∧ ((fun (l : List Qd) (n : Nat) (full : Bool) => n ≤ l.length) (toQs es) n full) | _, _ => False, fun xs hp => match xs, hp with | [.ref 1000 0 n full], [(1000, .arr 4 ty es)] => (fun (l : List Qd) (n : Nat) (full : Bool) => (.ref 1000 0 n false : IV)) (toQs es) n full | _, _ => .junk, fun xs hp => match xs, hp with | [.ref 1000 0 n full], [(1000, .arr 4 ty es)] => (fun (l : List Qd) (n : Nat) (full : Bool) => ([(1000, .arr 4 60 (encQs l))] : List (Nat × IBlk))) (toQs es) n full | _, _ => []⟩
theorem hk_slices_Clip_impl_RatPoint_impl_RatPoint : ∀ args hp, hs_slices_Clip_impl_RatPoint_impl_RatPoint.pre args hp → HCall Try.prog 142 args (sm hp) (hs_slices_Clip_impl_RatPoint_impl_RatPoint.val args hp) (sm (hs_slices_Clip_impl_RatPoint_impl_RatPoint.hval args hp)) := by
  intro args hp h
  unfold hs_slices_Clip_impl_RatPoint_impl_RatPoint at h ⊢; simp only at h ⊢; split at h
  · obtain ⟨h1, rfl, h2⟩ := h; obtain ⟨l, rfl⟩ := isQ_ex h1; rw [toQs_enc] at *; exact c_slices_Clip_impl_RatPoint_impl_RatPoint l _ _ h2
  · exact h.elim
theorem en_slices_Clip_impl_RatPoint_impl_RatPoint : Enters Try.prog 142 := enters_of Try.func142 (by kernel_rfl) rfl


def cpFQ : Qd → List Qd → List Qd
  | _, [] => []
  | q, x :: l => if x == q then cpFQ x l else x :: cpFQ x l
def compFQ : List Qd → List Qd
  | [] => []
  | x :: l => x :: cpFQ x l
theorem cpFQ_eq : ∀ (q : Qd) (l : List Qd), cpFQ q l = cpG q l
  | q, [] => rfl
  | q, x :: l => by
    rw [cpFQ, cpG]
    by_cases h : x = q
    · rw [if_pos h, if_pos (by simpa using h), cpFQ_eq]
    · rw [if_neg h, if_neg (by simpa using h), cpFQ_eq]
theorem compFQ_eq (l : List Qd) : compFQ l = compQ l := by
  cases l with
  | nil => rfl
  | cons x l => rw [compFQ, cpFQ_eq]; rfl
theorem eqQ (a b : Qd) : (a.1.1 == b.1.1 && (a.1.2 == b.1.2 && (a.2.1 == b.2.1 && a.2.2 == b.2.2))) = (a == b) := by
  have : (a == b) = ((a.1.1 == b.1.1 && a.1.2 == b.1.2) && (a.2.1 == b.2.1 && a.2.2 == b.2.2)) := rfl
  rw [this, Bool.and_assoc]
theorem encQs_set (l : List Qd) (m : Nat) (p : Qd) : (encQs l).set m (.agg [.num .i64 p.1.1, .num .i64 p.1.2, .num .i64 p.2.1, .num .i64 p.2.2]) = encQs (l.set m p) := by
  show (l.map encQ).set m (encQ p) = (l.set m p).map encQ
  rw [List.map_set]
theorem cpFQ_step {q : Qd} {l : List Qd} {i : Nat} (hi : i < l.length) : cpFQ q (l.drop i) = if qAt l i == q then cpFQ (qAt l i) (l.drop (i + 1)) else qAt l i :: cpFQ (qAt l i) (l.drop (i + 1)) := by
  rw [drop_eq_g (d := ((0, 0), (0, 0))) hi, cpFQ]
theorem compFQ_at {l : List Qd} (h : 0 < l.length) : compFQ l = l.take 1 ++ cpFQ (qAt l 0) (l.drop 1) := by
  cases l with
  | nil => simp at h
  | cons x l => simp [compFQ]
theorem cpFQ_len (q : Qd) (l : List Qd) : (cpFQ q l).length ≤ l.length := by
  induction l generalizing q with
  | nil => simp [cpFQ]
  | cons x l ih =>
    simp only [cpFQ]
    split
    · have := ih x; simp; omega
    · have := ih x; simp; omega
theorem compFQ_len (l : List Qd) : (compFQ l).length ≤ l.length := by
  cases l with
  | nil => simp [compFQ]
  | cons x l => have := cpFQ_len x l; simp [compFQ]; omega
theorem take_set_succQ {l : List Qd} {m : Nat} (hm : m < l.length) (x : Qd) : (l.set m x).take (m + 1) = l.take m ++ [x] := by
  rw [take_succ_g (d := ((0, 0), (0, 0))) (by simpa using hm), List.take_set_of_le (Nat.le_refl _)]
  simp [List.getD, hm]
theorem getD_set_neQ {l : List Qd} {m q : Nat} (h : m ≠ q) (x : Qd) : qAt (l.set m x) q = qAt l q := by
  simp [List.getElem?_set_ne h]


def g_slices_Compact_impl_RatPoint_impl_RatPoint : List (Nat × PSpec) := []
theorem gok_slices_Compact_impl_RatPoint_impl_RatPoint : GOK Try.prog g_slices_Compact_impl_RatPoint_impl_RatPoint := gok0
def h_slices_Compact_impl_RatPoint_impl_RatPoint : List (Nat × HSpec) := []
theorem hok_slices_Compact_impl_RatPoint_impl_RatPoint : HOK Try.prog h_slices_Compact_impl_RatPoint_impl_RatPoint := hok0
theorem c_slices_Compact_impl_RatPoint_impl_RatPoint (l : List Qd) (hsz : l.length ≤ 1000000) : HCall Try.prog 143 [.ref 1000 0 l.length true] (sm ([(1000, .arr 4 60 (encQs l))])) (.ref 1000 0 (compFQ l).length true) (sm ([(1000, .arr 4 60 (encQs (compFQ l)))])) := by
  refine hcall_V (G := g_slices_Compact_impl_RatPoint_impl_RatPoint) (H := []) [] tabOK mixed gok_slices_Compact_impl_RatPoint_impl_RatPoint hok_slices_Compact_impl_RatPoint_impl_RatPoint Try.func143 rfl Try.ntmps143 Try.results143 rfl (by kernel_rfl) fun F hN hlen => ?_
  simp only [sm]
  have el := len_encQs l
  have hl : l.length ≤ maxLen := by rw [maxLen_eq]; omega
  have hx : ∃ k ty es, IBlk.arr 4 60 (encQs l) = IBlk.arr k ty es := ⟨_, _, _, rfl⟩
  simp only [V_seq, V_region, V_cond, W_nil, W_cons, effOp2, KN_seq, asB, effOp, effPure, pureV, binV, lenV, ofC, strip, lkT, ISt.app, opI, gO, gB, allB, gval, wrapG, dstOK, setD, enumT, Op.operands, Call.operands, List.append_toArray, reduceIte, reduceCtorEq, Nat.reduceLT, Nat.reduceEqDiff, ne_eq, not_false_eq_true, true_and, and_self, implies_true, List.nil_append, List.cons_append, tab51, hN]
  refine brW_some (fun h => ?_) (fun h => ?_)
  · have hc : compFQ l = l := by
      have : l.length < 2 := by simp at h; omega
      match l, this with
      | [], _ => rfl
      | [x], _ => rfl
    simp only [V_seq, V_ret, V_region, W_nil, W_cons, effOp2, KN_seq, KXr_nil, KXr_seq, QE, effOp, effPure, Option.isSome_some, pureV, strip, lkT, lkH, ISt.app, opI, gO, gB, allB, gval, wrapG, dstOK, setD, conv, conv0, Op.operands, reduceIte, reduceCtorEq, Nat.reduceLT, Nat.reduceEqDiff, true_and, and_true, and_self, implies_true, List.map_cons, List.map_nil, List.nil_append, List.cons_append, hN, FinH, resA, resV, SLe, SLe0, convTm, convHp, convB]
    rw [hc]
    exact ⟨fun i => i, by simp, fun _ _ _ => rfl⟩
  · have hlt : 2 ≤ l.length := by simp at h; omega
    simp only [V_seq, V_skip, V_block, V_region, W_nil, W_cons, effOp2, KN_seq, effOp, effPure, pureV, ofC, strip, ISt.app, opI, gO, gB, allB, gval, wrapG, dstOK, setD, Op.operands, Nat.reduceLT, true_and, and_self, implies_true, List.nil_append, List.cons_append, hN]
    refine V_loop (α := Nat) ⟨tabOK, mixed, gok_slices_Compact_impl_RatPoint_impl_RatPoint, hok_slices_Compact_impl_RatPoint_impl_RatPoint⟩ (by kernel_rfl) (fun i => 1 ≤ i ∧ i ≤ l.length ∧ compFQ l = l.take i ++ cpFQ (qAt l (i - 1)) (l.drop i))
      (fun i => ⟨[(3, .num .i64 i), (0, .ref 1000 0 l.length true)], [(1000, some (.arr 4 60 (encQs l)))]⟩) (fun i => l.length - i) 1 id ⟨Nat.le_refl _, by omega, compFQ_at (by omega)⟩ (by simp [SLe, SLe0, convTm, convHp, convB, conv, conv0, lkT, lkH, clean]) ?_
    rintro i ⟨h1, hi, hj⟩
    simp only [V_seq, V_region, V_cond, W_nil, W_cons, effOp2, KN_seq, asB, effOp, effPure, pureV, binV, lenV, strip, lkT, ISt.app, opI, gO, gB, allB, gval, wrapG, dstOK, setD, Op.operands, Call.operands, List.append_toArray, reduceIte, reduceCtorEq, Nat.reduceLT, Nat.reduceEqDiff, ne_eq, not_false_eq_true, true_and, and_self, implies_true, List.nil_append, List.cons_append, tab51, hN]
    refine brW_some (fun h => ?_) (fun h => ?_)
    · have hi' : i < l.length := by simpa using h
      have g1 := getD_encQs hi'
      have g2 := getD_encQs (show i - 1 < l.length by omega)
      have hw := wr_succ hi' hl
      have hw2 : IntKind.i64.wrap ((i : Int) - 1) = ((i - 1 : Nat) : Int) := by
        rw [maxLen_eq] at hl
        rw [wr (by omega) (by omega)]
        omega
      simp only [V_seq, V_skip, V_block, V_draw, V_cond, drawW, pairsOf, WD_nil, WD_cons, effOp3, KN_seq, asB, effOp, effPure, pureV, binV, partV, eltV, loadV, iaddrV, ofC, strip, lkT, lkH, ISt.app, opI, gO, gB, allB, gval, wrapG, dstOK, setD, eqL, numsOnly, Op.operands, reduceIte, reduceCtorEq, Bool.and_true, Nat.reduceAdd, Nat.reduceLT, Nat.reduceLeDiff, Nat.reduceEqDiff, Nat.zero_add, ne_eq, not_false_eq_true, true_and, and_true, and_false, and_self, implies_true, forall_const, List.nil_append, List.cons_append, List.getD_cons_zero, List.length_cons, List.length_nil, List.take_succ_cons, List.take_nil, List.drop_zero, tab51, tab60, hN, Int.toNat_natCast, el, Int.toNat_natCast, g1, g2, hw2, eqQ, Nat.zero_add]
      repeat refine And.intro (by omega) ?_
      refine brW_some (fun h => ?_) (fun h => ?_)
      · simp only [V_seq, V_block, V_region, W_nil, W_cons, effOp2, KN_seq, effOp, effPure, pureV, sliceV, ofC, strip, lkT, lkH, ISt.app, opI, gO, gB, allB, gval, wrapG, dstOK, setD, Op.operands, List.append_toArray, Array.append_empty, Option.toArray_none, Option.toArray_some, reduceIte, reduceCtorEq, Nat.reduceLT, Nat.reduceEqDiff, Nat.zero_add, ne_eq, not_false_eq_true, true_and, and_true, and_self, implies_true, forall_const, List.nil_append, List.cons_append, Option.map_some, Option.map_none, tab51, tab60, hN, Int.toNat_natCast, Int.toNat_natCast, Nat.zero_add]
        refine ⟨⟨by omega, by omega⟩, ?_⟩
        refine V_loop (α := Nat × Nat × List Qd) ⟨tabOK, mixed, gok_slices_Compact_impl_RatPoint_impl_RatPoint, hok_slices_Compact_impl_RatPoint_impl_RatPoint⟩ (by kernel_rfl)
          (fun b => 1 ≤ b.1 ∧ i + b.1 ≤ l.length ∧ b.2.2.length = l.length ∧ b.2.1 + 1 ≤ i + b.1 ∧ b.2.2.take b.2.1 ++ cpFQ (qAt l (i + b.1 - 1)) (l.drop (i + b.1)) = compFQ l ∧ ∀ q, i + b.1 - 1 ≤ q → q < l.length → qAt b.2.2 q = qAt l q)
          (fun b => ⟨[(5, .num .i64 b.1), (4, .ref 1000 i (l.length - i) true), (3, .num .i64 b.2.1), (0, .ref 1000 0 l.length true)], [(1000, some (.arr 4 60 (encQs b.2.2)))]⟩) (fun b => l.length - i - b.1) (1, i, l) id
          ⟨Nat.le_refl _, by simp only []; omega, rfl, by simp only []; omega, ?_, fun q _ _ => rfl⟩ (by simp [SLe, SLe0, convTm, convHp, convB, conv, conv0, lkT, lkH, clean]) ?_
        · rw [hj, cpFQ_step hi', h]; rfl
        · rintro ⟨j, m, A⟩ ⟨b1, b2, b3, b4, b5, b6⟩
          simp only at b1 b2 b3 b4 b5 b6
          have hx : ∃ k ty es, IBlk.arr 4 60 (encQs A) = IBlk.arr k ty es := ⟨_, _, _, rfl⟩
          simp only [V_seq, V_region, V_cond, W_nil, W_cons, effOp2, KN_seq, asB, effOp, effPure, pureV, binV, lenV, strip, lkT, ISt.app, opI, gO, gB, allB, gval, wrapG, dstOK, setD, Op.operands, Call.operands, List.append_toArray, reduceIte, reduceCtorEq, Nat.reduceLT, Nat.reduceEqDiff, ne_eq, not_false_eq_true, true_and, and_self, implies_true, List.nil_append, List.cons_append, tab51, hN]
          refine brW_some (fun h2 => ?_) (fun h2 => ?_)
          · have hq : i + j < l.length := by simp at h2; omega
            have g3 := getD_encQs (show i + j < A.length by omega)
            have g4 := getD_encQs (show i + (j - 1) < A.length by omega)
            have hw3 : IntKind.i64.wrap ((j : Int) + 1) = ((j + 1 : Nat) : Int) := wr_succ (show j < l.length by omega) hl
            have hw4 : IntKind.i64.wrap ((j : Int) - 1) = ((j - 1 : Nat) : Int) := by
              rw [maxLen_eq] at hl
              rw [wr (by omega) (by omega)]
              omega
            have hw5 : IntKind.i64.wrap ((m : Int) + 1) = ((m + 1 : Nat) : Int) := wr_succ (show m < l.length by omega) hl
            simp only [V_seq, V_skip, V_block, V_draw, V_cond, drawW, pairsOf, WD_nil, WD_cons, effOp3, KN_seq, asB, effOp, effPure, pureV, binV, partV, eltV, loadV, iaddrV, ofC, strip, lkT, lkH, ISt.app, opI, gO, gB, allB, gval, wrapG, dstOK, setD, eqL, numsOnly, Op.operands, reduceIte, reduceCtorEq, Bool.and_true, Nat.reduceAdd, Nat.reduceLT, Nat.reduceLeDiff, Nat.reduceEqDiff, Nat.zero_add, ne_eq, not_false_eq_true, true_and, and_true, and_false, and_self, implies_true, forall_const, List.nil_append, List.cons_append, List.getD_cons_zero, List.length_cons, List.length_nil, List.take_succ_cons, List.take_nil, List.drop_zero, tab51, tab60, hN, Int.toNat_natCast, Int.toNat_natCast, g3, g4, hw4, eqQ, Nat.zero_add]
            have eA := len_encQs A
            refine ⟨⟨by omega, by omega⟩, by omega, ⟨by omega, by omega⟩, by omega, brW_some (fun h3 => ?_) (fun h3 => ?_)⟩
            · simp only [V_seq, V_region, W_nil, W_cons, effOp2, KN_seq, KN_block, KN_back, effOp, effPure, effStore, pureV, storeV, binV, partV, eltV, loadV, iaddrV, over, solid, IV.cells, ofC, strip, lkT, lkH, ISt.app, opI, gO, gB, allB, gval, wrapG, dstOK, setD, eltI, oneI, noId', Op.operands, reduceIte, reduceCtorEq, cond_true, Bool.and_true, Bool.true_and, Nat.reduceAdd, Nat.reduceLT, Nat.reduceLeDiff, Nat.reduceEqDiff, Nat.zero_add, ne_eq, not_false_eq_true, true_and, and_true, and_false, and_self, implies_true, forall_const, List.nil_append, List.cons_append, List.all_cons, List.all_nil, List.getD_cons_zero, List.length_cons, List.length_nil, List.take_succ_cons, List.take_zero, List.take_nil, List.drop_zero, tab51, tab60, hN, Int.toNat_natCast, Int.toNat_natCast, g3, hw3, hw5, Nat.zero_add]
              have hne : (qAt l (i + j) == qAt l (i + j - 1)) = false := by
                have e1 := b6 (i + j) (by omega) hq
                have e2 := b6 (i + (j - 1)) (by omega) (by omega)
                rw [show i + (j - 1) = i + j - 1 by omega] at e2 h3
                rw [e1, e2] at h3
                simpa using h3
              have hs := cpFQ_step (q := qAt l (i + j - 1)) hq
              rw [hne] at hs
              refine ⟨⟨by omega, by omega⟩, by omega, ⟨by omega, by omega⟩, by omega, (j + 1, m + 1, A.set m (qAt A (i + j))), id, ⟨by simp only []; omega, by simp only []; omega, by simpa using b3, by simp only []; omega, ?_, ?_⟩, by simp only []; omega,
                by simp [SLe, SLe0, convTm, convHp, convB, conv, conv0, lkT, lkH, clean, encQs_set]⟩
              · simp only []
                rw [take_set_succQ (by omega), b6 (i + j) (by omega) hq, show i + (j + 1) - 1 = i + j by omega, show i + (j + 1) = i + j + 1 by omega, ← b5, hs]
                simp
              · intro q h4 h5
                simp only [] at h4 ⊢
                rw [getD_set_neQ (by omega)]
                exact b6 q (by omega) h5
            · simp only [V_skip, V_region, W_nil, W_cons, effOp2, KN_seq, KN_block, KN_back, effOp, effPure, pureV, binV, ofC, strip, lkT, ISt.app, opI, gO, gB, allB, gval, wrapG, dstOK, setD, Op.operands, reduceIte, reduceCtorEq, Nat.reduceLT, Nat.reduceEqDiff, true_and, and_self, implies_true, List.nil_append, List.cons_append, hN, hw3]
              have hne : (qAt l (i + j) == qAt l (i + j - 1)) = true := by
                have e1 := b6 (i + j) (by omega) hq
                have e2 := b6 (i + (j - 1)) (by omega) (by omega)
                rw [show i + (j - 1) = i + j - 1 by omega] at e2 h3
                rw [e1, e2] at h3
                simpa using h3
              have hs := cpFQ_step (q := qAt l (i + j - 1)) hq
              rw [hne] at hs
              refine ⟨(j + 1, m, A), id, ⟨by simp only []; omega, by simp only []; omega, b3, by simp only []; omega, ?_, fun q h4 h5 => b6 q (by simp only [] at h4; omega) h5⟩, by simp only []; omega, by simp [SLe, SLe0, convTm, convHp, convB, conv, conv0, lkT, lkH, clean]⟩
              simp only []
              rw [show i + (j + 1) - 1 = i + j by omega, show i + (j + 1) = i + j + 1 by omega, ← b5, hs]
              simp
          · simp only [V_seq, V_ret, V_exit, V_region, W_nil, W_cons, effOp2, KN_seq, KN_back, KXr_nil, KXr_seq, KXr_block, KXr_back, KXe_nil, KXe_seq, KXe_block, KXe_back, QE, effOp, effPure, Option.isSome_some, effClear, pureV, binV, sliceV, ofC, strip, lkT, lkH, ISt.app, opI, gO, gB, allB, gval, wrapG, dstOK, setD, zeroElt, noId', conv, conv0, Op.operands, List.append_toArray, Array.append_empty, Option.toArray_none, Option.toArray_some, reduceIte, reduceCtorEq, cond_true, Bool.and_true, Nat.reduceLT, Nat.reduceLeDiff, Nat.reduceEqDiff, Nat.zero_add, ne_eq, not_false_eq_true, true_and, and_true, and_self, implies_true, forall_const, List.map_cons, List.map_nil, List.nil_append, List.cons_append, List.all_cons, List.all_nil, Option.map_some, Option.map_none, tab51, tab60, hN, Int.toNat_natCast, FinH, resA, resV, SLe, SLe0, convTm, convHp, convB, Int.toNat_natCast, Nat.zero_add]
            have hjl : i + j = l.length := by simp at h2; omega
            have hcp : compFQ l = A.take m := by rw [← b5, hjl]; simp [cpFQ]
            have hcl : (compFQ l).length = m := by rw [hcp]; simp; omega
            refine ⟨⟨by omega, by omega⟩, by rw [len_encQs]; omega, ⟨by omega, by omega⟩, id, ?_⟩
            simp [hcl, len_encQs]
            rw [List.take_append_of_le_length (by simp [len_encQs]; omega), encQs_take, encQs_take, List.take_take, Nat.min_self, hcp]
      · simp only [V_skip, V_region, W_nil, W_cons, effOp2, KN_seq, KN_block, KN_back, effOp, effPure, pureV, binV, ofC, strip, lkT, ISt.app, opI, gO, gB, allB, gval, wrapG, dstOK, setD, Op.operands, reduceIte, reduceCtorEq, Nat.reduceLT, Nat.reduceEqDiff, true_and, and_self, implies_true, List.nil_append, List.cons_append, hN, hw]
        refine ⟨i + 1, id, ⟨by omega, by omega, ?_⟩, by simp only []; omega, by simp [SLe, SLe0, convTm, convHp, convB, conv, conv0, lkT, lkH, clean]⟩
        rw [hj, cpFQ_step hi', h, take_succ_g (d := ((0, 0), (0, 0))) hi']
        simp
    · have hie : i = l.length := by simp at h; omega
      subst hie
      have hc : compFQ l = l := by rw [hj]; simp [cpFQ]
      simp only [V_seq, V_ret, V_exit, V_region, W_nil, W_cons, effOp2, KN_seq, KXr_nil, KXe_nil, KXe_seq, KXe_block, KXe_back, QE, effOp, effPure, Option.isSome_some, pureV, strip, lkT, lkH, ISt.app, opI, gO, gB, allB, gval, wrapG, dstOK, setD, conv, conv0, Op.operands, reduceIte, reduceCtorEq, Nat.reduceLT, Nat.reduceEqDiff, true_and, and_true, and_self, implies_true, List.map_cons, List.map_nil, List.nil_append, List.cons_append, hN, FinH, resA, resV, SLe, SLe0, convTm, convHp, convB]
      rw [hc]
      exact ⟨fun i => i, by simp, fun _ _ _ => rfl⟩
def hs_slices_Compact_impl_RatPoint_impl_RatPoint : HSpec := ⟨[false], fun xs hp => match xs, hp with | [.ref 1000 0 n true], [(1000, .arr 4 ty es)] => (isQs es) ∧ (ty = 60) ∧ (n = es.length) ∧ ((fun (l : List Qd) => l.length ≤ 1000000) (toQs es)) | _, _ => False, fun xs hp => match xs, hp with | [.ref 1000 0 n true], [(1000, .arr 4 ty es)] => (fun (l : List Qd) => (.ref 1000 0 (compFQ l).length true : IV)) (toQs es) | _, _ => .junk, fun xs hp => match xs, hp with | [.ref 1000 0 n true], [(1000, .arr 4 ty es)] => (fun (l : List Qd) => ([(1000, .arr 4 60 (encQs (compFQ l)))] : List (Nat × IBlk))) (toQs es) | _, _ => []⟩
theorem hk_slices_Compact_impl_RatPoint_impl_RatPoint : ∀ args hp, hs_slices_Compact_impl_RatPoint_impl_RatPoint.pre args hp → HCall Try.prog 143 args (sm hp) (hs_slices_Compact_impl_RatPoint_impl_RatPoint.val args hp) (sm (hs_slices_Compact_impl_RatPoint_impl_RatPoint.hval args hp)) := by
  intro args hp h
  unfold hs_slices_Compact_impl_RatPoint_impl_RatPoint at h ⊢; simp only at h ⊢; split at h
  · obtain ⟨h1, rfl, rfl, h2⟩ := h; obtain ⟨l, rfl⟩ := isQ_ex h1; rw [toQs_enc] at *; rw [len_encQs]; exact c_slices_Compact_impl_RatPoint_impl_RatPoint l h2
  · exact h.elim
theorem en_slices_Compact_impl_RatPoint_impl_RatPoint : Enters Try.prog 143 := enters_of Try.func143 (by kernel_rfl) rfl


end Go.Proofs.Ytemppebemahkoaa
