/- The law on triangles of three points: the walk. -/
import Derived.Test.YtbbmeabfmjkldaaB84
import Derived.Test.YtbbmeabfmjkldaaB28a
import Derived.Test.YtbbmeabfmjkldaaPl11
set_option linter.unusedVariables false
set_option linter.unusedSimpArgs false
set_option maxHeartbeats 16000000
set_option maxRecDepth 100000
namespace Go.Proofs.Ytbbmeabfmjkldaa
open Go Go.Ideal Go.Pl Go.Sort

def g_impl_Delaunay : List (Nat × PSpec) := [(32, sp_impl_ordered)]
theorem gok_impl_Delaunay : GOK Try.prog g_impl_Delaunay := gok_cons gk_impl_ordered en_impl_ordered (gok0)
theorem lk_impl_Delaunay_impl_ordered : lkG g_impl_Delaunay 32 = sp_impl_ordered := rfl
def h_impl_Delaunay : List (Nat × HSpec) := [(47, hs_impl_sweep), (48, hs_impl_flip)]
theorem hok_impl_Delaunay : HOK Try.prog h_impl_Delaunay := hok_cons hk_impl_sweep en_impl_sweep (hok_cons hk_impl_flip en_impl_flip (hok0))
theorem lh_impl_Delaunay_impl_ordered : lkHS h_impl_Delaunay 32 = none := rfl
theorem lh_impl_Delaunay_impl_sweep : lkHS h_impl_Delaunay 47 = some hs_impl_sweep := rfl
theorem lh_impl_Delaunay_impl_flip : lkHS h_impl_Delaunay 48 = some hs_impl_flip := rfl
theorem c_impl_Delaunay (l : List Pt)  : ICall Try.prog 15 [.sl 2 (encPs l)] (.sl 3 (encTs (delV l))) := by
  cases hk : siteB l with
  | true => exact icall_of_F (icallF_ref' (c_impl_Delaunay_h l hk) (len_encTs _).symm (noSl_encTs _)) (fun id => rfl)
  | false =>
    have e : delV l = [] := by rw [delV, hk]; rfl
    rw [e]
    exact c_impl_Delaunay_e0 l hk
def sp_impl_Delaunay : PSpec := ⟨fun xs => match xs with | [.sl 2 les] => isPs les | _ => False, fun xs => match xs with | [.sl _ les] => (fun (l : List Pt) => .sl 3 (encTs (delV l))) (toPs les) | _ => .junk, false⟩
theorem gk_impl_Delaunay : ∀ args, sp_impl_Delaunay.pre args → ICall Try.prog 15 args (sp_impl_Delaunay.val args) := by
  intro args h
  unfold sp_impl_Delaunay at h ⊢; simp only at h ⊢; split at h
  · have h0 := h
    obtain ⟨l0, rfl⟩ := isP_ex h0
    simp only [toPs_enc] at *
    exact c_impl_Delaunay _ 
  · exact h.elim
theorem en_impl_Delaunay : Enters Try.prog 15 := enters_of Try.func15 (by kernel_rfl) rfl

def g_impl_SweepTriangles : List (Nat × PSpec) := [(32, sp_impl_ordered)]
theorem gok_impl_SweepTriangles : GOK Try.prog g_impl_SweepTriangles := gok_cons gk_impl_ordered en_impl_ordered (gok0)
theorem lk_impl_SweepTriangles_impl_ordered : lkG g_impl_SweepTriangles 32 = sp_impl_ordered := rfl
def h_impl_SweepTriangles : List (Nat × HSpec) := [(47, hs_impl_sweep)]
theorem hok_impl_SweepTriangles : HOK Try.prog h_impl_SweepTriangles := hok_cons hk_impl_sweep en_impl_sweep (hok0)
theorem lh_impl_SweepTriangles_impl_ordered : lkHS h_impl_SweepTriangles 32 = none := rfl
theorem lh_impl_SweepTriangles_impl_sweep : lkHS h_impl_SweepTriangles 47 = some hs_impl_sweep := rfl
theorem c_impl_SweepTriangles (l : List Pt)  : ICall Try.prog 17 [.sl 2 (encPs l)] (.sl 3 (encTs (swV l))) := by
  cases hk : siteB l with
  | true =>
    have e : swV l = sweepP l := by rw [swV, hk]; rfl
    rw [e]
    exact icall_of_F (icallF_ref' (c_impl_SweepTriangles_h l hk) (len_encTs _).symm (noSl_encTs _)) (fun id => rfl)
  | false =>
    have e : swV l = [] := by rw [swV, hk]; rfl
    rw [e]
    exact c_impl_SweepTriangles_e0 l hk
def sp_impl_SweepTriangles : PSpec := ⟨fun xs => match xs with | [.sl 2 les] => isPs les | _ => False, fun xs => match xs with | [.sl _ les] => (fun (l : List Pt) => .sl 3 (encTs (swV l))) (toPs les) | _ => .junk, false⟩
theorem gk_impl_SweepTriangles : ∀ args, sp_impl_SweepTriangles.pre args → ICall Try.prog 17 args (sp_impl_SweepTriangles.val args) := by
  intro args h
  unfold sp_impl_SweepTriangles at h ⊢; simp only at h ⊢; split at h
  · have h0 := h
    obtain ⟨l0, rfl⟩ := isP_ex h0
    simp only [toPs_enc] at *
    exact c_impl_SweepTriangles _ 
  · exact h.elim
theorem en_impl_SweepTriangles : Enters Try.prog 17 := enters_of Try.func17 (by kernel_rfl) rfl

theorem eqTr (a b : Tr) : (a.1 == b.1 && (a.2.1 == b.2.1 && a.2.2 == b.2.2)) = (a == b) := rfl
def g_laws_equalTriangles : List (Nat × PSpec) := []
theorem gok_laws_equalTriangles : GOK Try.prog g_laws_equalTriangles := gok0
def h_laws_equalTriangles : List (Nat × HSpec) := []
theorem hok_laws_equalTriangles : HOK Try.prog h_laws_equalTriangles := hok0
theorem c_laws_equalTriangles (a : List Tr) (b : List Tr)  : ICall Try.prog 16 [.sl 3 (encTs a), .sl 3 (encTs b)] (.bool (a == b)) := by
  refine icall_V (G := g_laws_equalTriangles) (H := []) [] tabOK mixed gok_laws_equalTriangles hok_laws_equalTriangles Try.func16 rfl Try.ntmps16 Try.results16 rfl (by kernel_rfl) fun F hN hlen => ?_
  have la := hlen 0 3 _ rfl
  have lb := hlen 1 3 _ rfl
  have ea := len_encTs a
  have eb := len_encTs b
  rw [ea] at la
  rw [eb] at lb
  simp only [V_seq, V_region, V_cond, W_nil, W_cons, effOp2, KN_seq, asB, effOp, effPure, pureV, binV, lenV, ofC, strip, lkT, ISt.app, opI, gO, gB, allB, gval, wrapG, dstOK, setD, enumT, Op.operands, Call.operands, List.append_toArray, reduceIte, reduceCtorEq, Nat.reduceLT, Nat.reduceEqDiff, Nat.zero_add, ne_eq, not_false_eq_true, true_and, and_self, implies_true, List.nil_append, List.cons_append, List.append_nil, tab24, hN, ea, eb]
  refine brW_some (fun h => ?_) (fun h => ?_)
  · simp only [V_seq, V_ret, V_region, W_nil, W_cons, effOp2, KN_seq, KXr_nil, KXr_seq, QE, effOp, effPure, pureV, ofC, strip, lkT, lkH, ISt.app, opI, gO, gB, allB, gval, wrapG, dstOK, setD, clean, Gives, Ideal.Fin, conv, conv0, Op.operands, reduceIte, reduceCtorEq, Nat.reduceLT, Nat.reduceEqDiff, true_and, and_true, and_self, implies_true, List.nil_append, List.cons_append, List.append_nil, hN]
    have : a ≠ b := by rintro rfl; simp at h
    simp [this]
  · simp only [V_seq, V_skip, V_block, V_region, W_nil, W_cons, effOp2, KN_seq, effOp, effPure, pureV, ofC, strip, ISt.app, opI, gO, gB, allB, gval, wrapG, dstOK, setD, Op.operands, Nat.reduceLT, true_and, and_self, implies_true, List.nil_append, List.cons_append, List.append_nil, hN]
    have hab : a.length = b.length := by simp at h; omega
    refine V_loop (α := Nat) ⟨tabOK, mixed, gok_laws_equalTriangles, hok_laws_equalTriangles⟩ (by kernel_rfl) (fun i => i ≤ a.length ∧ ∀ j, j < i → tAt a j = tAt b j) (fun i => ⟨[(5, .num .i64 i), (0, .sl 3 (encTs a)), (1, .sl 3 (encTs b))], []⟩) (fun i => a.length - i) 0 id (by simp) (by simp [SLe, SLe0, convTm, convHp, conv, conv0, lkT, lkH, clean]) ?_
    rintro i ⟨hi, hj⟩
    simp only [V_seq, V_region, V_cond, W_nil, W_cons, effOp2, KN_seq, asB, effOp, effPure, pureV, binV, lenV, strip, lkT, ISt.app, opI, gO, gB, allB, gval, wrapG, dstOK, setD, Op.operands, Call.operands, List.append_toArray, reduceIte, reduceCtorEq, Nat.reduceLT, Nat.reduceEqDiff, ne_eq, not_false_eq_true, true_and, and_self, implies_true, List.nil_append, List.cons_append, List.append_nil, tab24, hN, ea]
    refine brW_some (fun h => ?_) (fun h => ?_)
    · have hi' : i < a.length := by simpa using h
      have g1 := getD_encTs hi'
      have g2 := getD_encTs (hab ▸ hi' : i < b.length)
      have hw := wr_succ hi' la
      simp only [V_seq, V_skip, V_block, V_draw, V_cond, drawW, pairsOf, WD_nil, WD_cons, effOp3, KN_seq, asB, effOp, effPure, pureV, binV, partV, eltV, loadV, iaddrV, strip, lkT, ISt.app, opI, gO, gB, allB, gval, wrapG, dstOK, setD, eqL, numsOnly, Op.operands, reduceIte, reduceCtorEq, Bool.and_true, Nat.reduceAdd, Nat.reduceLT, Nat.reduceLeDiff, Nat.reduceEqDiff, Nat.zero_add, ne_eq, not_false_eq_true, true_and, and_true, and_false, and_self, implies_true, forall_const, List.nil_append, List.cons_append, List.append_nil, List.getD_cons_zero, List.length_cons, List.length_nil, List.take_succ_cons, List.take_nil, List.drop_zero, tab24, tab32, hN, Int.toNat_natCast, ea, eb, Int.toNat_natCast, g1, g2, eqTr]
      repeat refine And.intro (by omega) ?_
      refine brW_some (fun h => ?_) (fun h => ?_)
      · simp only [V_seq, V_ret, V_region, W_nil, W_cons, effOp2, KN_seq, KXr_nil, KXr_seq, KXr_block, KXr_back, QE, effOp, effPure, pureV, ofC, strip, lkT, lkH, ISt.app, opI, gO, gB, allB, gval, wrapG, dstOK, setD, clean, Gives, Ideal.Fin, conv, conv0, Op.operands, reduceIte, reduceCtorEq, Nat.reduceLT, Nat.reduceEqDiff, true_and, and_true, and_self, implies_true, List.nil_append, List.cons_append, List.append_nil, hN]
        have : a ≠ b := by rintro rfl; simp at h
        simp [this]
      · simp only [V_skip, V_region, W_nil, W_cons, effOp2, KN_seq, KN_block, KN_back, effOp, effPure, pureV, binV, ofC, strip, lkT, ISt.app, opI, gO, gB, allB, gval, wrapG, dstOK, setD, Op.operands, reduceIte, reduceCtorEq, Nat.reduceLT, Nat.reduceEqDiff, true_and, and_self, implies_true, List.nil_append, List.cons_append, List.append_nil, hN, hw]
        refine ⟨i + 1, id, ⟨by omega, ?_⟩, by simp only []; omega, by simp [SLe, SLe0, convTm, convHp, conv, conv0, lkT, lkH, clean]⟩
        intro j hj'
        rcases Nat.lt_succ_iff_lt_or_eq.1 hj' with h' | rfl
        · exact hj j h'
        · simpa using h
    · simp only [V_seq, V_ret, V_exit, V_region, W_nil, W_cons, effOp2, KN_seq, KXr_nil, KXe_nil, KXe_seq, KXe_block, KXe_back, QE, effOp, effPure, pureV, ofC, strip, lkT, lkH, ISt.app, opI, gO, gB, allB, gval, wrapG, dstOK, setD, clean, Gives, Ideal.Fin, conv, conv0, Op.operands, reduceIte, reduceCtorEq, Nat.reduceLT, Nat.reduceEqDiff, true_and, and_true, and_self, implies_true, List.nil_append, List.cons_append, List.append_nil, hN]
      have hie : i = a.length := by simp at h; omega
      have : a = b := eq_of_getD hab (fun j h' => hj j (by omega))
      simp [this]
def sp_laws_equalTriangles : PSpec := ⟨fun xs => match xs with | [.sl 3 aes, .sl 3 bes] => isTs aes ∧ isTs bes | _ => False, fun xs => match xs with | [.sl _ aes, .sl _ bes] => (fun (a : List Tr) (b : List Tr) => .bool (a == b)) (toTs aes) (toTs bes) | _ => .junk, false⟩
theorem gk_laws_equalTriangles : ∀ args, sp_laws_equalTriangles.pre args → ICall Try.prog 16 args (sp_laws_equalTriangles.val args) := by
  intro args h
  unfold sp_laws_equalTriangles at h ⊢; simp only at h ⊢; split at h
  · obtain ⟨h0, h1⟩ := h
    obtain ⟨l0, rfl⟩ := isT_ex h0
    obtain ⟨l1, rfl⟩ := isT_ex h1
    simp only [toTs_enc] at *
    exact c_laws_equalTriangles _ _ 
  · exact h.elim
theorem en_laws_equalTriangles : Enters Try.prog 16 := enters_of Try.func16 (by kernel_rfl) rfl

theorem one_tri {p : List Pt} (hl : p.length = 3) (hT : turn (pA p 0) (pA p 1) (pA p 2) ≠ 0) : ∃ t, sweepP p = [t] := by
  have h0 : fstN p = 2 := by
    unfold fstN
    rw [hl]
    show fGo p 1 2 = 2
    rw [fGo, if_neg hT]
  have h1 : sweepP p = (swp p 2 1).1 := by
    unfold sweepP
    rw [if_neg (by omega), h0, hl]
  have hs : turn (pA p 1) (pA p 0) (pA p 2) = -turn (pA p 0) (pA p 1) (pA p 2) := by unfold turn; grind
  have h2 : (swp p 2 1).1 = (if seenB p [0, 1] 2 0 then [((1 : Int), (0 : Int), (2 : Int))] else []) ++ (if seenB p [0, 1] 2 1 then [((0 : Int), (1 : Int), (2 : Int))] else []) := by
    have r2 : List.range 2 = [0, 1] := rfl
    simp [Pl.swp, Pl.triL, Pl.rA, r2]
  have e0 : seenB p [0, 1] 2 0 = decide (turn (pA p 0) (pA p 1) (pA p 2) < 0) := rfl
  have e1 : seenB p [0, 1] 2 1 = decide (turn (pA p 1) (pA p 0) (pA p 2) < 0) := rfl
  rw [h1, h2, e0, e1, hs]
  generalize turn (pA p 0) (pA p 1) (pA p 2) = T at *
  rcases Int.lt_or_lt_of_ne hT with c | c
  · rw [decide_eq_true c, decide_eq_false (by omega)]; exact ⟨_, rfl⟩
  · rw [decide_eq_false (by omega), decide_eq_true (show -T < 0 by omega)]; exact ⟨_, rfl⟩
theorem three_ins {a b c : Pt} (h : turn a b c ≠ 0) : (insP [a, b, c]).length = 3 ∧ turn (pA (insP [a, b, c]) 0) (pA (insP [a, b, c]) 1) (pA (insP [a, b, c]) 2) ≠ 0 := by
  have hn : (insP [a, b, c]).length = 3 := ins_len_nodup (tri_nodup h)
  refine ⟨hn, ?_⟩
  have hd := nodup_insP [a, b, c]
  have hm : ∀ x ∈ insP [a, b, c], x = a ∨ x = b ∨ x = c := fun x hx => by simpa using mem_insP.1 hx
  match hL : insP [a, b, c], hn with
  | [x, y, z], _ =>
    rw [hL] at hd hm
    have hx := hm x (by simp)
    have hy := hm y (by simp)
    have hz := hm z (by simp)
    simp only [List.nodup_cons, List.mem_cons, List.not_mem_nil, or_false, not_or, List.nodup_nil, and_true, not_false_eq_true] at hd
    obtain ⟨⟨n1, n2⟩, n3⟩ := hd
    show turn x y z ≠ 0
    rcases hx with rfl | rfl | rfl <;> rcases hy with rfl | rfl | rfl <;> rcases hz with rfl | rfl | rfl <;> first
      | exact absurd rfl n1
      | exact absurd rfl n2
      | exact absurd rfl n3
      | exact h
      | (intro e; apply h; unfold turn at e ⊢; grind)
def g_laws_FnDelaunayTriangle : List (Nat × PSpec) := [(11, sp_spec_DrawCross), (12, sp_impl_Cross), (13, sp_spec_Cross), (14, sp_impl_SortPoints), (15, sp_impl_Delaunay), (17, sp_impl_SweepTriangles), (16, sp_laws_equalTriangles), (18, sp_spec_Delaunay)]
theorem gok_laws_FnDelaunayTriangle : GOK Try.prog g_laws_FnDelaunayTriangle := gok_cons gk_spec_DrawCross en_spec_DrawCross (gok_cons gk_impl_Cross en_impl_Cross (gok_cons gk_spec_Cross en_spec_Cross (gok_cons gk_impl_SortPoints en_impl_SortPoints (gok_cons gk_impl_Delaunay en_impl_Delaunay (gok_cons gk_impl_SweepTriangles en_impl_SweepTriangles (gok_cons gk_laws_equalTriangles en_laws_equalTriangles (gok_cons gk_spec_Delaunay en_spec_Delaunay (gok0))))))))
theorem lk_laws_FnDelaunayTriangle_spec_DrawCross : lkG g_laws_FnDelaunayTriangle 11 = sp_spec_DrawCross := rfl
theorem lk_laws_FnDelaunayTriangle_impl_Cross : lkG g_laws_FnDelaunayTriangle 12 = sp_impl_Cross := rfl
theorem lk_laws_FnDelaunayTriangle_spec_Cross : lkG g_laws_FnDelaunayTriangle 13 = sp_spec_Cross := rfl
theorem lk_laws_FnDelaunayTriangle_impl_SortPoints : lkG g_laws_FnDelaunayTriangle 14 = sp_impl_SortPoints := rfl
theorem lk_laws_FnDelaunayTriangle_impl_Delaunay : lkG g_laws_FnDelaunayTriangle 15 = sp_impl_Delaunay := rfl
theorem lk_laws_FnDelaunayTriangle_impl_SweepTriangles : lkG g_laws_FnDelaunayTriangle 17 = sp_impl_SweepTriangles := rfl
theorem lk_laws_FnDelaunayTriangle_laws_equalTriangles : lkG g_laws_FnDelaunayTriangle 16 = sp_laws_equalTriangles := rfl
theorem lk_laws_FnDelaunayTriangle_spec_Delaunay : lkG g_laws_FnDelaunayTriangle 18 = sp_spec_Delaunay := rfl
def h_laws_FnDelaunayTriangle : List (Nat × HSpec) := []
theorem hok_laws_FnDelaunayTriangle : HOK Try.prog h_laws_FnDelaunayTriangle := hok0
theorem c_laws_FnDelaunayTriangle (b : List Int) (hb : ∀ x ∈ b, 0 ≤ x ∧ x < 256) : ICall Try.prog 4 [.sl 1 (encBy b)] (.bool true) := by
  refine icall_V (G := g_laws_FnDelaunayTriangle) (H := []) [] tabOK mixed gok_laws_FnDelaunayTriangle hok_laws_FnDelaunayTriangle Try.func4 rfl Try.ntmps4 Try.results4 rfl (by kernel_rfl) fun F hN hlen => ?_
  have el := len_encBy b
  have bb : ∀ x : Int, (x != x) = false := fun x => by simp
  have bb2 : ∀ x : Int, (x == x) = true := fun x => by simp
  have hself : ∀ x : List Tr, (x == x) = true := fun x => by simp
  cases d1 : decide (1048576 < (b.length : Int)) with
  | true => simp only [V_seq, V_ret, V_region, V_cond, brW_true, W_nil, W_cons, effOp2, KN_seq, KXr_nil, KXr_seq, QE, asB, effOp, effPure, pureV, binV, lenV, ofC, strip, lkT, lkH, ISt.app, opI, gO, gB, allB, gval, wrapG, dstOK, setD, clean, enumT, Gives, Ideal.Fin, conv, conv0, Op.operands, Call.operands, List.append_toArray, reduceIte, reduceCtorEq, Nat.reduceLT, Nat.reduceEqDiff, ne_eq, not_false_eq_true, and_self, implies_true, List.nil_append, List.cons_append, List.append_nil, tab22, hN, el, d1]
  | false =>
    have hsz : b.length ≤ 1048576 := by simp at d1; omega
    obtain ⟨p, hp⟩ : ∃ p, d3A b = p := ⟨_, rfl⟩
    obtain ⟨q, hq⟩ : ∃ q, d3B b = q := ⟨_, rfl⟩
    obtain ⟨r, hr⟩ : ∃ r, d3C b = r := ⟨_, rfl⟩
    cases d2 : (crI p q r == 0) with
    | true =>
      simp only [V_seq, V_skip, V_ret, V_region, V_cond, brW_true, brW_false, W_nil, W_cons, effOp2, KN_seq, KXr_nil, KXr_seq, QE, asB, effOp, effPure, effPick, effNew, effAlloc, effStore, effCall, giveUp, hasAll, skipE, pureV, pickV, storeV, binV, partV, loadV, lenV, over, solid, IV.cells, ofC, strip, lkT, lkH, ISt.app, opI, gO, gB, allB, gval, wrapG, dstOK, setD, mentTm, mentHp, IV.ment, IV.mentL, oneI, lendV, lendP, lent, lentP, idsV, idsL, lkHS, flat, flatL, clean, cleanL, callArgs, callFn, allLent, enumT, Gives, Ideal.Fin, conv, conv0, Op.operands, Call.operands, List.append_toArray, reduceIte, reduceCtorEq, cond_true, cond_false, Bool.or_false, Bool.and_true, Bool.not_true, Nat.reduceAdd, Nat.reduceLT, Nat.reduceLeDiff, Nat.reduceEqDiff, Nat.reduceBEq, Nat.zero_add, ne_eq, not_false_eq_true, beq_self_eq_true, true_and, and_true, and_false, and_self, implies_true, forall_const, List.map_cons, List.map_nil, List.nil_append, List.cons_append, List.append_nil, List.all_cons, List.all_nil, Option.bind_some, List.getElem?_cons_zero, List.getElem?_cons_succ, List.getD_cons_zero, List.getD_cons_succ, List.length_cons, List.length_nil, List.take_succ_cons, List.take_zero, List.take_nil, List.drop_succ_cons, List.drop_zero, List.drop_nil, ex_clo, or_self, Bool.false_eq_true, tab22, tab30, hN, pe, encP, isBy_enc, toBy_enc, lk_laws_FnDelaunayTriangle_spec_DrawCross, lk_laws_FnDelaunayTriangle_impl_Cross, lk_laws_FnDelaunayTriangle_spec_Cross, sp_spec_DrawCross, sp_impl_Cross, sp_spec_Cross, el, d1, hsz, hp, hq, hr, d2, bb]
      exact hb
    | false =>
      have hne : crI p q r ≠ 0 := by simpa using d2
      obtain ⟨k1, k2, k3, k4, k5⟩ := cr_facts hne
      have hk : okPs [p, q, r] = true := by simp [okPs, k1, k2, k3]
      obtain ⟨hn, ht⟩ := three_ins k5
      have hs : sortP [p, q, r] = insP [p, q, r] := by rw [sortP, if_pos hk]
      obtain ⟨s, hss⟩ : ∃ s, insP [p, q, r] = s := ⟨_, rfl⟩
      rw [hss] at hn ht hs
      have hasc : insP s = s := by rw [← hss]; exact insP_of_asc (asc_insP _)
      have hko : okPs s = true := by
        simp only [okPs, Bool.and_eq_true, List.all_eq_true, decide_eq_true_eq] at hk ⊢
        exact ⟨fun x hx => hk.1 x (mem_insP.1 (by rw [hss]; exact hx)), by omega⟩
      have hsite : siteB s = true := by rw [siteB, hko, hasc]; simp
      obtain ⟨t, htt⟩ := one_tri hn ht
      have hsw : swV s = [t] := by rw [swV, hsite]; exact htt
      have hg := sweep_good hsite
      have hde : delV s = [t] := by
        rw [(delV_good hsite).1, htt]
        rw [htt] at hg
        exact delP_none (flip_one (hg t (by simp)))
      have e3 : encPs [p, q, r] = [.agg [.num .i64 p.1, .num .i64 p.2], .agg [.num .i64 q.1, .num .i64 q.2], .agg [.num .i64 r.1, .num .i64 r.2]] := rfl
      have e1 : (encTs [t]).length = 1 := rfl
      have d3 : (((1 : Nat) : Int) == 1) = true := rfl
      simp only [V_seq, V_skip, V_ret, V_region, V_cond, brW_false, W_nil, W_cons, effOp2, KN_seq, KXr_nil, QE, asB, effOp, effPure, effPick, effNew, effAlloc, effBuildSlice, effFrz, frz, tmpsOf, effStore, effCall, giveUp, hasAll, Option.isSome_some, skipE, pureV, pickV, storeV, binV, partV, loadV, lenV, over, solid, IV.cells, ofC, strip, lkT, lkH, ISt.app, opI, gO, gB, allB, gval, wrapG, dstOK, setD, mentTm, mentHp, IV.ment, IV.mentL, partsL, eltsI, eltI, oneI, noId', lendV, lendP, lent, lentP, idsV, idsL, lkHS, flat, flatL, clean, cleanL, callArgs, callFn, allLent, enumT, Gives, Ideal.Fin, conv, conv0, Op.operands, Call.operands, List.append_toArray, reduceIte, reduceCtorEq, cond_true, cond_false, Bool.or_false, Bool.and_true, Bool.not_true, Nat.reduceAdd, Nat.reduceMul, Nat.reduceLT, Nat.reduceLeDiff, Nat.reduceEqDiff, Nat.reduceBEq, Nat.zero_add, ne_eq, not_false_eq_true, beq_self_eq_true, true_and, and_true, and_false, and_self, implies_true, forall_const, List.map_cons, List.map_nil, List.nil_append, List.cons_append, List.append_nil, List.all_cons, List.all_nil, Option.bind_some, List.getElem?_cons_zero, List.getElem?_cons_succ, List.getD_cons_zero, List.getD_cons_succ, List.length_cons, List.length_nil, List.take_succ_cons, List.take_zero, List.take_nil, List.drop_succ_cons, List.drop_zero, List.drop_nil, ex_clo, or_true, or_self, Bool.true_eq_false, Bool.false_eq_true, tab22, tab23, tab24, tab30, hN, pe, encP, isPs_enc, toPs_enc, isTs_enc, toTs_enc, isBy_enc, toBy_enc, isPs_nil, toPs_nil, isPs_cons, toPs_cons, lk_laws_FnDelaunayTriangle_spec_DrawCross, lk_laws_FnDelaunayTriangle_impl_Cross, lk_laws_FnDelaunayTriangle_spec_Cross, lk_laws_FnDelaunayTriangle_impl_SortPoints, lk_laws_FnDelaunayTriangle_impl_Delaunay, lk_laws_FnDelaunayTriangle_impl_SweepTriangles, lk_laws_FnDelaunayTriangle_laws_equalTriangles, lk_laws_FnDelaunayTriangle_spec_Delaunay, sp_spec_DrawCross, sp_impl_Cross, sp_spec_Cross, sp_impl_SortPoints, sp_impl_Delaunay, sp_impl_SweepTriangles, sp_laws_equalTriangles, sp_spec_Delaunay, el, d1, hsz, hp, hq, hr, d2, bb, hs, hsw, hde, e1, d3]
      exact hb
def sp_laws_FnDelaunayTriangle : PSpec := ⟨fun xs => match xs with | [.sl 1 bes] => isBy bes ∧ ((fun (b : List Int) => ∀ x ∈ b, 0 ≤ x ∧ x < 256) (toIs bes)) | _ => False, fun xs => match xs with | [.sl _ bes] => (fun (b : List Int) => .bool true) (toIs bes) | _ => .junk, false⟩
theorem gk_laws_FnDelaunayTriangle : ∀ args, sp_laws_FnDelaunayTriangle.pre args → ICall Try.prog 4 args (sp_laws_FnDelaunayTriangle.val args) := by
  intro args h
  unfold sp_laws_FnDelaunayTriangle at h ⊢; simp only at h ⊢; split at h
  · obtain ⟨h0, h1⟩ := h
    obtain ⟨l0, rfl⟩ := isBy_ex h0
    simp only [toBy_enc] at *
    exact c_laws_FnDelaunayTriangle _ h1
  · exact h.elim
theorem en_laws_FnDelaunayTriangle : Enters Try.prog 4 := enters_of Try.func4 (by kernel_rfl) rfl

end Go.Proofs.Ytbbmeabfmjkldaa
