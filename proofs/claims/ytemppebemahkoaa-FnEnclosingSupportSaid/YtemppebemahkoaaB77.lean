/- The law on the support of enclosing circles: the walk. -/
import Derived.Test.YtemppebemahkoaaB76
import Derived.Test.YtemppebemahkoaaB7
import Derived.Test.YtemppebemahkoaaBF
set_option linter.unusedVariables false
set_option linter.unusedSimpArgs false
set_option maxHeartbeats 1600000
set_option maxRecDepth 100000
namespace Go.Proofs.Ytemppebemahkoaa
open Go Go.Ideal Go.Pl Go.Sort

def g_spec_DrawEnclosingSupport : List (Nat × PSpec) := []
theorem gok_spec_DrawEnclosingSupport : GOK Try.prog g_spec_DrawEnclosingSupport := gok0
def h_spec_DrawEnclosingSupport : List (Nat × HSpec) := [(65, hs_spec_newReader), (64, hs_spec_anyPoints)]
theorem hok_spec_DrawEnclosingSupport : HOK Try.prog h_spec_DrawEnclosingSupport := hok_cons hk_spec_newReader en_spec_newReader (hok_cons hk_spec_anyPoints en_spec_anyPoints (hok0))
theorem lh_spec_DrawEnclosingSupport_spec_newReader : lkHS h_spec_DrawEnclosingSupport 65 = some hs_spec_newReader := rfl
theorem lh_spec_DrawEnclosingSupport_spec_anyPoints : lkHS h_spec_DrawEnclosingSupport 64 = some hs_spec_anyPoints := rfl
theorem c_spec_DrawEnclosingSupport (b : List Int) (hb : ∀ x ∈ b, 0 ≤ x ∧ x < 256) (hsz : b.length ≤ 1048576) : ICall Try.prog 39 [.sl 1 (encBy b)] (.sl 2 (encPs (drawPts b 8))) := by
  refine icall_V (G := g_spec_DrawEnclosingSupport) (H := h_spec_DrawEnclosingSupport) [] tabOK mixed gok_spec_DrawEnclosingSupport hok_spec_DrawEnclosingSupport Try.func39 rfl Try.ntmps39 Try.results39 rfl (by kernel_rfl) fun F hN hlen => ?_
  have hbt := bytes_take hb
  have hl := drawPts_len hb (show (0 : Int) ≤ 8 by omega) (by omega)
  have hd : (aPoints (b.take 2000) 0 8).1 = drawPts b 8 := rfl
  simp only [V_seq, V_ret, V_region, W_nil, W_cons, effOp2, KN_seq, KXr_nil, QE, effOp, effPure, Option.isSome_some, skipE, pureV, ofC, strip, lkT, lkH, ISt.app, opI, gO, gB, allB, gval, wrapG, dstOK, setD, mentTm, mentHp, IV.ment, IV.mentL, lendV, lendP, lent, lentP, idsV, idsL, clean, callArgs, callFn, enumT, Gives, Ideal.Fin, conv, conv0, convL, IBlk.shape, Op.operands, reduceIte, reduceCtorEq, cond_true, cond_false, Bool.or_false, Bool.and_true, Bool.and_false, Bool.not_false, Nat.reduceAdd, Nat.reduceSub, Nat.reduceMul, Nat.reduceLT, Nat.reduceLeDiff, Nat.reduceEqDiff, Nat.reduceBEq, Nat.add_zero, Nat.zero_add, ne_eq, not_false_eq_true, beq_self_eq_true, true_and, and_true, and_false, and_self, false_implies, implies_true, List.map_cons, List.map_nil, List.nil_append, List.cons_append, List.append_nil, List.all_nil, Option.some.injEq, Option.map_some, Option.map_none, List.getD_cons_zero, List.drop_zero, ex_clo, or_self, Bool.true_eq_false, Bool.false_eq_true, hN, Int.toNat_natCast, isBy_enc, toBy_enc, SLe0, convTm, convHp, convB, sm, effH, mkHC0, mkHC1, lendM, lentM, lentI, allHere, addIds, idsB, flatIds, reach, posn, renV, renL, renB, renH, numB, subHp, fwd, bk, bwd, nones, keyOK, noSl, noSlL, flatBs, List.contains, List.elem, Option.isSome_some, Option.isSome_none, List.nodup_nil, List.nodup_cons, List.not_mem_nil, List.mem_cons, or_false, Option.getD_some, lh_spec_DrawEnclosingSupport_spec_newReader, lh_spec_DrawEnclosingSupport_spec_anyPoints, hs_spec_newReader, hs_spec_anyPoints, rdr, hsz, hbt, hd]
  exact ⟨⟨⟨by omega, by omega⟩, take_eq_of rfl⟩, _, _, rfl, by rw [len_encPs]; exact Nat.le_refl _, (take_encPs _).symm⟩
def sp_spec_DrawEnclosingSupport : PSpec := ⟨fun xs => match xs with | [.sl 1 bes] => isBy bes ∧ ((fun (b : List Int) => ∀ x ∈ b, 0 ≤ x ∧ x < 256) (toIs bes)) ∧ ((fun (b : List Int) => b.length ≤ 1048576) (toIs bes)) | _ => False, fun xs => match xs with | [.sl _ bes] => (fun (b : List Int) => .sl 2 (encPs (drawPts b 8))) (toIs bes) | _ => .junk, false⟩
theorem gk_spec_DrawEnclosingSupport : ∀ args, sp_spec_DrawEnclosingSupport.pre args → ICall Try.prog 39 args (sp_spec_DrawEnclosingSupport.val args) := by
  intro args h
  unfold sp_spec_DrawEnclosingSupport at h ⊢; simp only at h ⊢; split at h
  · obtain ⟨h0, h1, h2⟩ := h
    obtain ⟨l0, rfl⟩ := isBy_ex h0
    simp only [toBy_enc] at *
    exact c_spec_DrawEnclosingSupport _ h1 h2
  · exact h.elim
theorem en_spec_DrawEnclosingSupport : Enters Try.prog 39 := enters_of Try.func39 (by kernel_rfl) rfl

def lastI (w : List Int) : Nat → Int
  | 0 => -1
  | i + 1 => w.getD i 0
def g_impl_indicesOk : List (Nat × PSpec) := [(92, sp_impl_within), (66, sp_impl_listOk)]
theorem gok_impl_indicesOk : GOK Try.prog g_impl_indicesOk := gok_cons gk_impl_within en_impl_within (gok_cons gk_impl_listOk en_impl_listOk (gok0))
theorem lk_impl_indicesOk_impl_within : lkG g_impl_indicesOk 92 = sp_impl_within := rfl
theorem lk_impl_indicesOk_impl_listOk : lkG g_impl_indicesOk 66 = sp_impl_listOk := rfl
def h_impl_indicesOk : List (Nat × HSpec) := []
theorem hok_impl_indicesOk : HOK Try.prog h_impl_indicesOk := hok0
theorem c_impl_indicesOk (l : List Pt) (w : List Int) (hw : ∀ x ∈ w, 0 ≤ x ∧ x < (l.length : Int)) (ha : Asc1 w) (hl : l.length ≤ 1000000) (h1 : w.length ≤ 1000000) : ICall Try.prog 103 [.sl 2 (encPs l), .sl 1 (encI w)] (.bool (okPs l)) := by
  refine icall_V (G := g_impl_indicesOk) (H := []) [] tabOK mixed gok_impl_indicesOk hok_impl_indicesOk Try.func103 rfl Try.ntmps103 Try.results103 rfl (by kernel_rfl) fun F hN hlen => ?_
  have el := len_encPs l
  have ew := len_encI w
  simp only [V_seq, V_block, V_region, W_nil, W_cons, effOp2, KN_seq, effOp, effPure, pureV, lenV, ofC, strip, lkT, ISt.app, opI, gO, gB, allB, gval, wrapG, dstOK, setD, enumT, Op.operands, Call.operands, List.append_toArray, reduceIte, reduceCtorEq, Nat.reduceLT, Nat.reduceEqDiff, Nat.zero_add, ne_eq, not_false_eq_true, true_and, and_self, implies_true, List.nil_append, List.cons_append, List.append_nil, tab25, hN, ew]
  refine V_loop (α := Nat) ⟨tabOK, mixed, gok_impl_indicesOk, hok_impl_indicesOk⟩ (by kernel_rfl) (fun i => i ≤ w.length) (fun i => ⟨[(10, .num .i64 i), (9, .num .i64 w.length), (8, .sl 1 (encI w)), (5, .num .i64 (lastI w i)), (0, .sl 2 (encPs l))], []⟩) (fun i => w.length - i) 0 id (Nat.zero_le _) (by simp [SLe, SLe0, convTm, convHp, conv, conv0, lkT, lkH, clean, lastI]) ?_
  intro i hi
  simp only [V_seq, V_region, V_cond, W_nil, W_cons, effOp2, KN_seq, asB, effOp, effPure, pureV, binV, strip, lkT, ISt.app, opI, gO, gB, allB, gval, wrapG, dstOK, setD, Op.operands, reduceIte, reduceCtorEq, Nat.reduceLT, Nat.reduceEqDiff, true_and, and_self, implies_true, List.nil_append, List.cons_append, List.append_nil, hN]
  refine brW_some (fun h => ?_) (fun h => ?_)
  · have hi' : i < w.length := by simpa using h
    have hwi := wr_succ hi' (by rw [maxLen_eq]; omega)
    have g0 := getD_encI hi'
    have hm : ∀ j, j < w.length → 0 ≤ w.getD j 0 ∧ w.getD j 0 < (l.length : Int) := fun j hj => hw (w.getD j 0) (by rw [List.getD, List.getElem?_eq_getElem hj]; exact List.getElem_mem hj)
    have hb := hm i hi'
    have w0 : IntKind.i64.wrap ((l.length : Int) - 1) = (l.length : Int) - 1 := wr (by omega) (by omega)
    have hlast : -1 ≤ lastI w i ∧ lastI w i < w.getD i 0 := by
      rcases i with _ | j
      · simp only [lastI]; omega
      · have h2 := hm j (by omega)
        have h3 := ha j hi'
        simp only [lastI]; omega
    have w1 : IntKind.i64.wrap (lastI w i + 1) = lastI w i + 1 := wr (by omega) (by omega)
    have hin : inR (w.getD i 0) (lastI w i + 1) ((l.length : Int) - 1) = true := by simp only [inR, Bool.and_eq_true, decide_eq_true_eq]; omega
    have hst : lastI w (i + 1) = w.getD i 0 := rfl
    simp only [V_seq, V_skip, V_block, V_region, V_cond, brW_false, W_nil, W_cons, effOp2, KN_seq, KN_block, KN_back, asB, effOp, effPure, effCall, giveUp, hasAll, pureV, binV, eltV, loadV, iaddrV, lenV, ofC, strip, lkT, lkH, ISt.app, opI, gO, gB, allB, gval, wrapG, dstOK, setD, lendV, lendP, lent, lentP, idsV, idsL, lkHS, flat, clean, callArgs, callFn, allLent, Op.operands, Call.operands, List.append_toArray, reduceIte, reduceCtorEq, cond_true, Bool.or_false, Bool.not_true, Nat.reduceLT, Nat.reduceEqDiff, ne_eq, not_false_eq_true, true_and, and_true, and_self, implies_true, forall_const, List.map_cons, List.map_nil, List.nil_append, List.cons_append, List.append_nil, ex_clo, or_self, tab3, tab23, tab25, hN, Int.toNat_natCast, lk_impl_indicesOk_impl_within, sp_impl_within, el, ew, g0, hin, w0, w1, hwi]
    refine ⟨⟨by omega, by omega⟩, i + 1, id, by simp only []; omega, by simp only []; omega, ?_⟩
    simp only [hst]
    exact by simp [SLe, SLe0, convTm, convHp, conv, conv0, lkT, lkH, clean]
  · have hie : i = w.length := by simp at h; omega
    subst hie
    simp only [V_seq, V_ret, V_exit, V_region, W_nil, W_cons, effOp2, KN_seq, KXr_nil, KXe_nil, KXe_seq, KXe_block, KXe_back, QE, effOp, effPure, effCall, giveUp, hasAll, pureV, strip, lkT, lkH, ISt.app, opI, gO, gB, allB, gval, wrapG, dstOK, setD, lendV, lendP, lent, lentP, idsV, idsL, lkHS, flat, clean, callArgs, callFn, allLent, Gives, Ideal.Fin, conv, conv0, Op.operands, reduceIte, reduceCtorEq, cond_true, Bool.or_false, Bool.not_true, Nat.reduceLT, Nat.reduceEqDiff, and_self, implies_true, List.map_cons, List.map_nil, List.nil_append, List.cons_append, List.append_nil, ex_clo, or_self, hN, isPs_enc, toPs_enc, lk_impl_indicesOk_impl_listOk, sp_impl_listOk]
def sp_impl_indicesOk : PSpec := ⟨fun xs => match xs with | [.sl 2 les, .sl 1 wes] => isPs les ∧ isIs wes ∧ ((fun (l : List Pt) (w : List Int) => ∀ x ∈ w, 0 ≤ x ∧ x < (l.length : Int)) (toPs les) (toIs wes)) ∧ ((fun (l : List Pt) (w : List Int) => Asc1 w) (toPs les) (toIs wes)) ∧ ((fun (l : List Pt) (w : List Int) => l.length ≤ 1000000) (toPs les) (toIs wes)) ∧ ((fun (l : List Pt) (w : List Int) => w.length ≤ 1000000) (toPs les) (toIs wes)) | _ => False, fun xs => match xs with | [.sl _ les, .sl _ wes] => (fun (l : List Pt) (w : List Int) => .bool (okPs l)) (toPs les) (toIs wes) | _ => .junk, false⟩
theorem gk_impl_indicesOk : ∀ args, sp_impl_indicesOk.pre args → ICall Try.prog 103 args (sp_impl_indicesOk.val args) := by
  intro args h
  unfold sp_impl_indicesOk at h ⊢; simp only at h ⊢; split at h
  · obtain ⟨h0, h1, h2, h3, h4, h5⟩ := h
    obtain ⟨l0, rfl⟩ := isP_ex h0
    obtain ⟨l1, rfl⟩ := isI_ex h1
    simp only [toPs_enc, toIs_enc] at *
    exact c_impl_indicesOk _ _ h2 h3 h4 h5
  · exact h.elim
theorem en_impl_indicesOk : Enters Try.prog 103 := enters_of Try.func103 (by kernel_rfl) rfl

def g_impl_CheckEnclosing : List (Nat × PSpec) := [(103, sp_impl_indicesOk), (100, sp_impl_enclosing)]
theorem gok_impl_CheckEnclosing : GOK Try.prog g_impl_CheckEnclosing := gok_cons gk_impl_indicesOk en_impl_indicesOk (gok_cons gk_impl_enclosing en_impl_enclosing (gok0))
theorem lk_impl_CheckEnclosing_impl_indicesOk : lkG g_impl_CheckEnclosing 103 = sp_impl_indicesOk := rfl
theorem lk_impl_CheckEnclosing_impl_enclosing : lkG g_impl_CheckEnclosing 100 = sp_impl_enclosing := rfl
def h_impl_CheckEnclosing : List (Nat × HSpec) := []
theorem hok_impl_CheckEnclosing : HOK Try.prog h_impl_CheckEnclosing := hok0
theorem c_impl_CheckEnclosing (l : List Pt) (w : List Int) (hk : okPs l = true) (hw : ∀ x ∈ w, 0 ≤ x ∧ x < (l.length : Int)) (ha : Asc1 w) (h1 : w.length ≤ 1000000) : ICall Try.prog 42 [.sl 2 (encPs l), .sl 1 (encI w)] (.bool (suppI l w)) := by
  refine icall_V (G := g_impl_CheckEnclosing) (H := []) [] tabOK mixed gok_impl_CheckEnclosing hok_impl_CheckEnclosing Try.func42 rfl Try.ntmps42 Try.results42 rfl (by kernel_rfl) fun F hN hlen => ?_
  have hl : l.length ≤ 1000000 := by have := okPs_len hk; omega
  simp only [V_seq, V_ret, V_region, W_nil, W_cons, effOp2, KN_seq, KXr_nil, QE, effOp, effPure, effPick, effCall, giveUp, hasAll, pureV, pickV, ofC, strip, lkT, lkH, ISt.app, opI, gO, gB, allB, gval, wrapG, dstOK, setD, lendV, lendP, lent, lentP, idsV, idsL, lkHS, flat, clean, callArgs, callFn, allLent, enumT, Gives, Ideal.Fin, conv, conv0, Op.operands, reduceIte, reduceCtorEq, cond_true, Bool.or_false, Bool.not_true, Nat.reduceLT, Nat.reduceEqDiff, Nat.zero_add, beq_self_eq_true, true_and, and_true, and_self, implies_true, forall_const, List.map_cons, List.map_nil, List.nil_append, List.cons_append, List.append_nil, Option.bind_some, List.getElem?_cons_zero, List.getElem?_cons_succ, ex_clo, or_self, Bool.true_eq_false, hN, isPs_enc, toPs_enc, isIs_enc, toIs_enc, lk_impl_CheckEnclosing_impl_indicesOk, lk_impl_CheckEnclosing_impl_enclosing, sp_impl_indicesOk, sp_impl_enclosing, hk, ha, hl, h1]
  exact hw
def sp_impl_CheckEnclosing : PSpec := ⟨fun xs => match xs with | [.sl 2 les, .sl 1 wes] => isPs les ∧ isIs wes ∧ ((fun (l : List Pt) (w : List Int) => okPs l = true) (toPs les) (toIs wes)) ∧ ((fun (l : List Pt) (w : List Int) => ∀ x ∈ w, 0 ≤ x ∧ x < (l.length : Int)) (toPs les) (toIs wes)) ∧ ((fun (l : List Pt) (w : List Int) => Asc1 w) (toPs les) (toIs wes)) ∧ ((fun (l : List Pt) (w : List Int) => w.length ≤ 1000000) (toPs les) (toIs wes)) | _ => False, fun xs => match xs with | [.sl _ les, .sl _ wes] => (fun (l : List Pt) (w : List Int) => .bool (suppI l w)) (toPs les) (toIs wes) | _ => .junk, false⟩
theorem gk_impl_CheckEnclosing : ∀ args, sp_impl_CheckEnclosing.pre args → ICall Try.prog 42 args (sp_impl_CheckEnclosing.val args) := by
  intro args h
  unfold sp_impl_CheckEnclosing at h ⊢; simp only at h ⊢; split at h
  · obtain ⟨h0, h1, h2, h3, h4, h5⟩ := h
    obtain ⟨l0, rfl⟩ := isP_ex h0
    obtain ⟨l1, rfl⟩ := isI_ex h1
    simp only [toPs_enc, toIs_enc] at *
    exact c_impl_CheckEnclosing _ _ h2 h3 h4 h5
  · exact h.elim
theorem en_impl_CheckEnclosing : Enters Try.prog 42 := enters_of Try.func42 (by kernel_rfl) rfl


/-! one point -/
theorem es_facts {l : List Pt} {w : List Nat} (h : esV l = some w) : okPs l = true ∧ suppB l w = true ∧ 1 ≤ w.length ∧ w.length ≤ 3 ∧ Up 0 l.length w := by
  cases hk : okPs l with
  | false => rw [esV, hk] at h; cases h
  | true =>
    rw [esV, hk, if_pos rfl] at h
    obtain ⟨a1, a2, a3, a4⟩ := srch_some h
    exact ⟨rfl, a1, a2, a3, a4⟩
theorem ins_one {l : List Pt} {a : Pt} (h : ∀ q ∈ l, a = q) (h0 : 0 < l.length) : (insP l).length = 1 := by
  have hn := nodup_insP l
  have hm : ∀ q ∈ insP l, a = q := fun q hq => h q (mem_insP.1 hq)
  have ha : a ∈ insP l := by
    obtain ⟨x, hx⟩ := List.exists_mem_of_length_pos h0
    rw [h x hx]; exact mem_insP.2 hx
  match hL : insP l, hn, hm, ha with
  | [x], _, _, _ => rfl
  | x :: y :: r, hn, hm, _ =>
    have e1 := hm x (by simp)
    have e2 := hm y (by simp)
    rw [List.nodup_cons] at hn
    exact absurd (by rw [← e1, e2]; simp) hn.1
theorem es_one {l : List Pt} {w : List Nat} (h : esV l = some w) : (w.length = 1 ↔ (insP l).length = 1) := by
  obtain ⟨hk, h1, h2, h3, h4⟩ := es_facts h
  obtain ⟨d1, d2⟩ := supp_facts h1
  constructor
  · intro e
    match w, e with
    | [i], _ =>
      refine ins_one (a := pA l i) (fun q hq => ?_) (by have := h4.2.1; omega)
      have := d2 q hq
      simpa [selP, encS] using this
  · intro e
    obtain ⟨a, ha⟩ : ∃ a, insP l = [a] := by
      match insP l, e with
      | [a], _ => exact ⟨a, rfl⟩
    have hall : ∀ q ∈ l, q = a := fun q hq => by
      have := mem_insP.2 hq
      rw [ha] at this; simpa using this
    have hpos : 0 < l.length := by
      rcases Nat.eq_zero_or_pos l.length with z | z
      · rw [List.length_eq_zero_iff.1 z] at ha; cases ha
      · exact z
    have hs0 : suppB l [0] = true := by
      have e0 : pA l 0 = a := hall _ (by simp [pA, List.getD, hpos])
      rw [suppB]
      simp only [selP, List.map_cons, List.map_nil, e0, detB, Bool.true_and, List.all_eq_true, encS, beq_iff_eq]
      intro q hq; exact (hall q hq).symm
    have hV : esV l = srchP (suppB l) l.length := by rw [esV, hk]; rfl
    rw [hV, srch_dfs] at h
    cases hd : dfs (suppB l) l.length 1 [] 0 with
    | none =>
      rw [dfs_find, List.find?_eq_none] at hd
      exact absurd hs0 (hd [0] (mem_exts.2 ⟨[0], rfl, rfl, Nat.le_refl _, hpos, trivial⟩))
    | some v =>
      rw [hd] at h
      simp only [Option.some.injEq] at h
      subst h
      rw [dfs_find] at hd
      obtain ⟨e, e1, e2, _⟩ := mem_exts.1 (List.mem_of_find?_eq_some hd)
      rw [e1, List.nil_append]; exact e2
def g_laws_FnEnclosingSupport : List (Nat × PSpec) := [(39, sp_spec_DrawEnclosingSupport), (40, sp_impl_EnclosingSupport), (41, sp_spec_EnclosingSupport), (17, sp_laws_equalInts), (42, sp_impl_CheckEnclosing), (43, sp_impl_SortPoints)]
theorem gok_laws_FnEnclosingSupport : GOK Try.prog g_laws_FnEnclosingSupport := gok_cons gk_spec_DrawEnclosingSupport en_spec_DrawEnclosingSupport (gok_cons gk_impl_EnclosingSupport en_impl_EnclosingSupport (gok_cons gk_spec_EnclosingSupport en_spec_EnclosingSupport (gok_cons gk_laws_equalInts en_laws_equalInts (gok_cons gk_impl_CheckEnclosing en_impl_CheckEnclosing (gok_cons gk_impl_SortPoints en_impl_SortPoints (gok0))))))
theorem lk_laws_FnEnclosingSupport_spec_DrawEnclosingSupport : lkG g_laws_FnEnclosingSupport 39 = sp_spec_DrawEnclosingSupport := rfl
theorem lk_laws_FnEnclosingSupport_impl_EnclosingSupport : lkG g_laws_FnEnclosingSupport 40 = sp_impl_EnclosingSupport := rfl
theorem lk_laws_FnEnclosingSupport_spec_EnclosingSupport : lkG g_laws_FnEnclosingSupport 41 = sp_spec_EnclosingSupport := rfl
theorem lk_laws_FnEnclosingSupport_laws_equalInts : lkG g_laws_FnEnclosingSupport 17 = sp_laws_equalInts := rfl
theorem lk_laws_FnEnclosingSupport_impl_CheckEnclosing : lkG g_laws_FnEnclosingSupport 42 = sp_impl_CheckEnclosing := rfl
theorem lk_laws_FnEnclosingSupport_impl_SortPoints : lkG g_laws_FnEnclosingSupport 43 = sp_impl_SortPoints := rfl
def h_laws_FnEnclosingSupport : List (Nat × HSpec) := []
theorem hok_laws_FnEnclosingSupport : HOK Try.prog h_laws_FnEnclosingSupport := hok0
theorem c_laws_FnEnclosingSupport (b : List Int) (hb : ∀ x ∈ b, 0 ≤ x ∧ x < 256) : ICall Try.prog 8 [.sl 1 (encBy b)] (.bool true) := by
  refine icall_V (G := g_laws_FnEnclosingSupport) (H := []) [] tabOK mixed gok_laws_FnEnclosingSupport hok_laws_FnEnclosingSupport Try.func8 rfl Try.ntmps8 Try.results8 rfl (by kernel_rfl) fun F hN hlen => ?_
  have el := len_encBy b
  have bb2 : ∀ x : Bool, (x == x) = true := fun x => by simp
  have hself : ∀ x : List Int, (x == x) = true := fun x => by simp
  cases d1 : decide (1048576 < (b.length : Int)) with
  | true => simp only [V_seq, V_ret, V_region, V_cond, brW_true, W_nil, W_cons, effOp2, KN_seq, KXr_nil, KXr_seq, QE, asB, effOp, effPure, pureV, binV, lenV, ofC, strip, lkT, lkH, ISt.app, opI, gO, gB, allB, gval, wrapG, dstOK, setD, clean, enumT, Gives, Ideal.Fin, conv, conv0, Op.operands, Call.operands, List.append_toArray, reduceIte, reduceCtorEq, Nat.reduceLT, Nat.reduceEqDiff, ne_eq, not_false_eq_true, and_self, implies_true, List.nil_append, List.cons_append, List.append_nil, tab22, hN, el, d1]
  | false =>
    have hsz : b.length ≤ 1048576 := by simp at d1; omega
    obtain ⟨l, hl⟩ : ∃ l, drawPts b 8 = l := ⟨_, rfl⟩
    have e1 := len_encPs (insP l)
    cases hc : esV l with
    | none =>
      have en : encN ((esV l).getD []) = encI [] := by rw [hc]; rfl
      have e0 : (encI []).length = 0 := rfl
      have d0 : (((0 : Nat) : Int) == 0) = true := rfl
      simp only [V_seq, V_skip, V_ret, V_region, V_cond, brW_true, brW_false, W_nil, W_cons, effOp2, KN_seq, KXr_nil, KXr_seq, QE, asB, effOp, effPure, effPick, effCall, giveUp, hasAll, pureV, pickV, binV, lenV, ofC, strip, lkT, lkH, ISt.app, opI, gO, gB, allB, gval, wrapG, dstOK, setD, lendV, lendP, lent, lentP, idsV, idsL, lkHS, flat, clean, callArgs, callFn, allLent, enumT, Gives, Ideal.Fin, conv, conv0, Op.operands, Call.operands, List.append_toArray, reduceIte, reduceCtorEq, cond_true, cond_false, Bool.or_false, Bool.not_true, Nat.reduceLT, Nat.reduceEqDiff, ne_eq, not_false_eq_true, beq_self_eq_true, true_and, and_true, and_self, implies_true, forall_const, List.map_cons, List.map_nil, List.nil_append, List.cons_append, List.append_nil, Option.bind_some, List.getElem?_cons_zero, List.getElem?_cons_succ, ex_clo, or_true, or_self, Bool.false_eq_true, tab22, tab25, hN, isPs_enc, toPs_enc, isIs_enc, toIs_enc, isBy_enc, toBy_enc, lk_laws_FnEnclosingSupport_spec_DrawEnclosingSupport, lk_laws_FnEnclosingSupport_impl_EnclosingSupport, lk_laws_FnEnclosingSupport_spec_EnclosingSupport, lk_laws_FnEnclosingSupport_laws_equalInts, sp_spec_DrawEnclosingSupport, sp_impl_EnclosingSupport, sp_spec_EnclosingSupport, sp_laws_equalInts, el, d1, hsz, hl, en, e0, d0]
      exact hb
    | some w =>
      obtain ⟨hk, h1, h2, h3, h4⟩ := es_facts hc
      have en : encN ((esV l).getD []) = encI (natI w) := by rw [hc]; rfl
      have ew : (encI (natI w)).length = w.length := by rw [len_encI, natI, List.length_map]
      have d0 : (((w.length : Nat) : Int) == 0) = false := by rw [beq_eq_false_iff_ne]; omega
      have hW1 : ∀ x ∈ natI w, 0 ≤ x ∧ x < (l.length : Int) := by
        intro x hx
        obtain ⟨y, hy, rfl⟩ := List.mem_map.1 hx
        have := (up_lt h4 y hy).2
        exact ⟨by omega, by omega⟩
      have hW2 : (natI w).length ≤ 1000000 := by rw [natI, List.length_map]; omega
      have hA := asc_natI h4
      have hsu : suppI l (natI w) = true := by rw [suppI_natI]; exact h1
      have hs : sortP l = insP l := by rw [sortP, if_pos hk]
      have h1i := es_one hc
      have d3 : ((((insP l).length : Nat) : Int) == 1) = (((w.length : Nat) : Int) == 1) := by
        rw [Bool.eq_iff_iff, beq_iff_eq, beq_iff_eq]; omega
      have d4 : decide (((w.length : Nat) : Int) ≤ 3) = true := decide_eq_true (by omega)
      simp only [V_seq, V_skip, V_ret, V_region, V_cond, brW_false, W_nil, W_cons, effOp2, KN_seq, KXr_nil, QE, asB, effOp, effPure, effPick, effCall, giveUp, hasAll, pureV, pickV, binV, lenV, ofC, strip, lkT, lkH, ISt.app, opI, gO, gB, allB, gval, wrapG, dstOK, setD, lendV, lendP, lent, lentP, idsV, idsL, lkHS, flat, clean, callArgs, callFn, allLent, enumT, Gives, Ideal.Fin, conv, conv0, Op.operands, Call.operands, List.append_toArray, reduceIte, reduceCtorEq, cond_true, cond_false, Bool.or_false, Bool.not_true, Nat.reduceLT, Nat.reduceEqDiff, ne_eq, not_false_eq_true, beq_self_eq_true, true_and, and_true, and_self, implies_true, forall_const, List.map_cons, List.map_nil, List.nil_append, List.cons_append, List.append_nil, Option.bind_some, List.getElem?_cons_zero, List.getElem?_cons_succ, ex_clo, or_true, or_self, Bool.true_eq_false, Bool.false_eq_true, tab4, tab22, tab23, tab25, hN, isPs_enc, toPs_enc, isIs_enc, toIs_enc, isBy_enc, toBy_enc, lk_laws_FnEnclosingSupport_spec_DrawEnclosingSupport, lk_laws_FnEnclosingSupport_impl_EnclosingSupport, lk_laws_FnEnclosingSupport_spec_EnclosingSupport, lk_laws_FnEnclosingSupport_laws_equalInts, lk_laws_FnEnclosingSupport_impl_CheckEnclosing, lk_laws_FnEnclosingSupport_impl_SortPoints, sp_spec_DrawEnclosingSupport, sp_impl_EnclosingSupport, sp_spec_EnclosingSupport, sp_laws_equalInts, sp_impl_CheckEnclosing, sp_impl_SortPoints, el, d1, hsz, hl, hk, en, ew, d0, hW2, hA, hsu, hs, e1, d3, d4]
      exact ⟨hb, hW1⟩
def sp_laws_FnEnclosingSupport : PSpec := ⟨fun xs => match xs with | [.sl 1 bes] => isBy bes ∧ ((fun (b : List Int) => ∀ x ∈ b, 0 ≤ x ∧ x < 256) (toIs bes)) | _ => False, fun xs => match xs with | [.sl _ bes] => (fun (b : List Int) => .bool true) (toIs bes) | _ => .junk, false⟩
theorem gk_laws_FnEnclosingSupport : ∀ args, sp_laws_FnEnclosingSupport.pre args → ICall Try.prog 8 args (sp_laws_FnEnclosingSupport.val args) := by
  intro args h
  unfold sp_laws_FnEnclosingSupport at h ⊢; simp only at h ⊢; split at h
  · obtain ⟨h0, h1⟩ := h
    obtain ⟨l0, rfl⟩ := isBy_ex h0
    simp only [toBy_enc] at *
    exact c_laws_FnEnclosingSupport _ h1
  · exact h.elim
theorem en_laws_FnEnclosingSupport : Enters Try.prog 8 := enters_of Try.func8 (by kernel_rfl) rfl

end Go.Proofs.Ytemppebemahkoaa
