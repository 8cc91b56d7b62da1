/- The law on the hull of a union: the walk. -/
import Derived.Test.YtjlcbomigbolcaaB11
import Derived.Test.YtjlcbomigbolcaaB7
set_option linter.unusedVariables false
set_option linter.unusedSimpArgs false
namespace Go.Proofs.Ytjlcbomigbolcaa
open Go Go.Ideal Go.Pl Go.Sort

def g_spec_DrawHull : List (Nat × PSpec) := []
theorem gok_spec_DrawHull : GOK Try.prog g_spec_DrawHull := gok0
def h_spec_DrawHull : List (Nat × HSpec) := [(64, hs_spec_newReader), (114, hs_spec_anyPoints)]
theorem hok_spec_DrawHull : HOK Try.prog h_spec_DrawHull := hok_cons hk_spec_newReader en_spec_newReader (hok_cons hk_spec_anyPoints en_spec_anyPoints (hok0))
theorem lh_spec_DrawHull_spec_newReader : lkHS h_spec_DrawHull 64 = some hs_spec_newReader := rfl
theorem lh_spec_DrawHull_spec_anyPoints : lkHS h_spec_DrawHull 114 = some hs_spec_anyPoints := rfl
theorem c_spec_DrawHull (b : List Int) (hb : ∀ x ∈ b, 0 ≤ x ∧ x < 256) (hsz : b.length ≤ 1048576) : ICall Try.prog 56 [.sl 1 (encBy b)] (.sl 2 (encPs (drawPts b 12))) := by
  refine icall_V (G := g_spec_DrawHull) (H := h_spec_DrawHull) [] tabOK mixed gok_spec_DrawHull hok_spec_DrawHull Try.func56 rfl Try.ntmps56 Try.results56 rfl (by kernel_rfl) fun F hN hlen => ?_
  have hbt := bytes_take hb
  have hl := drawPts_len hb (show (0 : Int) ≤ 12 by omega) (by omega)
  have hd : (aPoints (b.take 2000) 0 12).1 = drawPts b 12 := rfl
  simp only [V_seq, V_ret, V_region, W_nil, W_cons, effOp2, KN_seq, KXr_nil, QE, effOp, effPure, Option.isSome_some, skipE, pureV, ofC, strip, lkT, lkH, ISt.app, opI, gO, gB, allB, gval, wrapG, dstOK, setD, mentTm, mentHp, IV.ment, IV.mentL, lendV, lendP, lent, lentP, idsV, idsL, clean, callArgs, callFn, enumT, Gives, Ideal.Fin, conv, conv0, convL, IBlk.shape, Op.operands, reduceIte, reduceCtorEq, cond_true, cond_false, Bool.or_false, Bool.and_true, Bool.and_false, Bool.not_false, Nat.reduceAdd, Nat.reduceSub, Nat.reduceMul, Nat.reduceLT, Nat.reduceLeDiff, Nat.reduceEqDiff, Nat.reduceBEq, Nat.add_zero, Nat.zero_add, ne_eq, not_false_eq_true, beq_self_eq_true, true_and, and_true, and_false, and_self, false_implies, implies_true, List.map_cons, List.map_nil, List.nil_append, List.cons_append, List.append_nil, List.all_nil, Option.some.injEq, Option.map_some, Option.map_none, List.getD_cons_zero, List.drop_zero, ex_clo, or_self, Bool.true_eq_false, Bool.false_eq_true, hN, Int.toNat_natCast, isBy_enc, toBy_enc, SLe0, convTm, convHp, convB, sm, effH, mkHC0, mkHC1, lendM, lentM, lentI, allHere, addIds, idsB, flatIds, reach, posn, renV, renL, renB, renH, numB, subHp, fwd, bk, bwd, nones, keyOK, noSl, noSlL, flatBs, List.contains, List.elem, Option.isSome_some, Option.isSome_none, List.nodup_nil, List.nodup_cons, List.not_mem_nil, List.mem_cons, or_false, Option.getD_some, lh_spec_DrawHull_spec_newReader, lh_spec_DrawHull_spec_anyPoints, hs_spec_newReader, hs_spec_anyPoints, rdr, hsz, hbt, hd]
  exact ⟨⟨⟨by omega, by omega⟩, take_eq_of rfl⟩, _, _, rfl, by rw [len_encPs]; exact Nat.le_refl _, (take_encPs _).symm⟩
def sp_spec_DrawHull : PSpec := ⟨fun xs => match xs with | [.sl 1 bes] => isBy bes ∧ ((fun (b : List Int) => ∀ x ∈ b, 0 ≤ x ∧ x < 256) (toIs bes)) ∧ ((fun (b : List Int) => b.length ≤ 1048576) (toIs bes)) | _ => False, fun xs => match xs with | [.sl _ bes] => (fun (b : List Int) => .sl 2 (encPs (drawPts b 12))) (toIs bes) | _ => .junk, false⟩
theorem gk_spec_DrawHull : ∀ args, sp_spec_DrawHull.pre args → ICall Try.prog 56 args (sp_spec_DrawHull.val args) := by
  intro args h
  unfold sp_spec_DrawHull at h ⊢; simp only at h ⊢; split at h
  · obtain ⟨h0, h1, h2⟩ := h
    obtain ⟨l0, rfl⟩ := isBy_ex h0
    simp only [toBy_enc] at *
    exact c_spec_DrawHull _ h1 h2
  · exact h.elim
theorem en_spec_DrawHull : Enters Try.prog 56 := enters_of Try.func56 (by kernel_rfl) rfl


theorem okPs_sub {l m : List Pt} (h : okPs l = true) (hs : ∀ x ∈ m, x ∈ l) (hn : m.length ≤ l.length) : okPs m = true := by
  simp only [okPs, Bool.and_eq_true, List.all_eq_true, decide_eq_true_eq] at h ⊢
  exact ⟨fun x hx => h.1 x (hs x hx), by omega⟩

end Go.Proofs.Ytjlcbomigbolcaa
