/- Laws: lists of ints compared, searched. -/
import Derived.Test.YtemppebemahkoaaBU
set_option linter.unusedVariables false
set_option linter.unusedSimpArgs false
set_option maxHeartbeats 1600000
set_option maxRecDepth 100000
namespace Go.Proofs.Ytemppebemahkoaa
open Go Go.Ideal Go.Pl Go.Sort

def g_laws_equalInts : List (Nat × PSpec) := []
theorem gok_laws_equalInts : GOK Try.prog g_laws_equalInts := gok0
def h_laws_equalInts : List (Nat × HSpec) := []
theorem hok_laws_equalInts : HOK Try.prog h_laws_equalInts := hok0
theorem c_laws_equalInts (a : List Int) (b : List Int)  : ICall Try.prog 17 [.sl 1 (encI a), .sl 1 (encI b)] (.bool (a == b)) := by
  refine icall_V (G := g_laws_equalInts) (H := []) [] tabOK mixed gok_laws_equalInts hok_laws_equalInts Try.func17 rfl Try.ntmps17 Try.results17 rfl (by kernel_rfl) fun F hN hlen => ?_
  have la := hlen 0 1 _ rfl
  have lb := hlen 1 1 _ rfl
  have ea := len_encI a
  have eb := len_encI b
  rw [ea] at la
  rw [eb] at lb
  simp only [V_seq, V_region, V_cond, W_nil, W_cons, effOp2, KN_seq, asB, effOp, effPure, pureV, binV, lenV, ofC, strip, lkT, ISt.app, opI, gO, gB, allB, gval, wrapG, dstOK, setD, enumT, Op.operands, Call.operands, List.append_toArray, reduceIte, reduceCtorEq, Nat.reduceLT, Nat.reduceEqDiff, Nat.zero_add, ne_eq, not_false_eq_true, true_and, and_self, implies_true, List.nil_append, List.cons_append, List.append_nil, tab25, hN, ea, eb]
  refine brW_some (fun h => ?_) (fun h => ?_)
  · simp only [V_seq, V_ret, V_region, W_nil, W_cons, effOp2, KN_seq, KXr_nil, KXr_seq, QE, effOp, effPure, pureV, ofC, strip, lkT, lkH, ISt.app, opI, gO, gB, allB, gval, wrapG, dstOK, setD, clean, Gives, Ideal.Fin, conv, conv0, Op.operands, reduceIte, reduceCtorEq, Nat.reduceLT, Nat.reduceEqDiff, true_and, and_true, and_self, implies_true, List.nil_append, List.cons_append, List.append_nil, hN]
    have : a ≠ b := by rintro rfl; simp at h
    simp [this]
  · simp only [V_seq, V_skip, V_block, V_region, W_nil, W_cons, effOp2, KN_seq, effOp, effPure, pureV, ofC, strip, ISt.app, opI, gO, gB, allB, gval, wrapG, dstOK, setD, Op.operands, Nat.reduceLT, true_and, and_self, implies_true, List.nil_append, List.cons_append, List.append_nil, hN]
    have hab : a.length = b.length := by simp at h; omega
    refine V_loop (α := Nat) ⟨tabOK, mixed, gok_laws_equalInts, hok_laws_equalInts⟩ (by kernel_rfl) (fun i => i ≤ a.length ∧ ∀ j, j < i → a.getD j 0 = b.getD j 0) (fun i => ⟨[(5, .num .i64 i), (0, .sl 1 (encI a)), (1, .sl 1 (encI b))], []⟩) (fun i => a.length - i) 0 id (by simp) (by simp [SLe, SLe0, convTm, convHp, conv, conv0, lkT, lkH, clean]) ?_
    rintro i ⟨hi, hj⟩
    simp only [V_seq, V_region, V_cond, W_nil, W_cons, effOp2, KN_seq, asB, effOp, effPure, pureV, binV, lenV, strip, lkT, ISt.app, opI, gO, gB, allB, gval, wrapG, dstOK, setD, Op.operands, Call.operands, List.append_toArray, reduceIte, reduceCtorEq, Nat.reduceLT, Nat.reduceEqDiff, ne_eq, not_false_eq_true, true_and, and_self, implies_true, List.nil_append, List.cons_append, List.append_nil, tab25, hN, ea]
    refine brW_some (fun h => ?_) (fun h => ?_)
    · have hi' : i < a.length := by simpa using h
      have g1 := getD_encI hi'
      have g2 := getD_encI (hab ▸ hi' : i < b.length)
      have hw := wr_succ hi' la
      simp only [V_seq, V_skip, V_block, V_draw, V_cond, drawW, pairsOf, WD_nil, WD_cons, effOp3, KN_seq, asB, effOp, effPure, pureV, binV, eltV, loadV, iaddrV, strip, lkT, ISt.app, opI, gO, gB, allB, gval, wrapG, dstOK, setD, Op.operands, reduceIte, reduceCtorEq, Nat.reduceLT, Nat.reduceEqDiff, ne_eq, not_false_eq_true, true_and, and_true, and_self, implies_true, forall_const, List.nil_append, List.cons_append, List.append_nil, tab3, tab25, hN, Int.toNat_natCast, ea, eb, Int.toNat_natCast, g1, g2]
      repeat refine And.intro (by omega) ?_
      refine brW_some (fun h => ?_) (fun h => ?_)
      · simp only [V_seq, V_ret, V_region, W_nil, W_cons, effOp2, KN_seq, KXr_nil, KXr_seq, KXr_block, KXr_back, QE, effOp, effPure, pureV, ofC, strip, lkT, lkH, ISt.app, opI, gO, gB, allB, gval, wrapG, dstOK, setD, clean, Gives, Ideal.Fin, conv, conv0, Op.operands, reduceIte, reduceCtorEq, Nat.reduceLT, Nat.reduceEqDiff, true_and, and_true, and_self, implies_true, List.nil_append, List.cons_append, List.append_nil, hN]
        have : a ≠ b := by rintro rfl; simp at h
        simp [this]
      · simp only [V_skip, V_region, W_nil, W_cons, effOp2, KN_seq, KN_block, KN_back, effOp, effPure, pureV, binV, ofC, strip, lkT, ISt.app, opI, gO, gB, allB, gval, wrapG, dstOK, setD, Op.operands, reduceIte, reduceCtorEq, Nat.reduceLT, Nat.reduceEqDiff, true_and, and_self, implies_true, List.nil_append, List.cons_append, List.append_nil, hN, hw]
        refine ⟨i + 1, id, ⟨by omega, ?_⟩, by simp only []; omega, by simp [SLe, SLe0, convTm, convHp, conv, conv0, lkT, lkH, clean]⟩
        intro j hj'
        rcases Nat.lt_succ_iff_lt_or_eq.1 hj' with h' | rfl
        · exact hj j h'
        · simpa using h
    · simp only [V_seq, V_ret, V_exit, V_region, W_nil, W_cons, effOp2, KN_seq, KXr_nil, KXe_nil, KXe_seq, KXe_block, KXe_back, QE, effOp, effPure, pureV, ofC, strip, lkT, lkH, ISt.app, opI, gO, gB, allB, gval, wrapG, dstOK, setD, clean, Gives, Ideal.Fin, conv, conv0, Op.operands, reduceIte, reduceCtorEq, Nat.reduceLT, Nat.reduceEqDiff, true_and, and_true, and_self, implies_true, List.nil_append, List.cons_append, List.append_nil, hN]
      have hie : i = a.length := by simp at h; omega
      have : a = b := eq_of_getD hab (fun j h' => hj j (by omega))
      simp [this]
def sp_laws_equalInts : PSpec := ⟨fun xs => match xs with | [.sl 1 aes, .sl 1 bes] => isIs aes ∧ isIs bes | _ => False, fun xs => match xs with | [.sl _ aes, .sl _ bes] => (fun (a : List Int) (b : List Int) => .bool (a == b)) (toIs aes) (toIs bes) | _ => .junk, false⟩
theorem gk_laws_equalInts : ∀ args, sp_laws_equalInts.pre args → ICall Try.prog 17 args (sp_laws_equalInts.val args) := by
  intro args h
  unfold sp_laws_equalInts at h ⊢; simp only at h ⊢; split at h
  · obtain ⟨h0, h1⟩ := h
    obtain ⟨l0, rfl⟩ := isI_ex h0
    obtain ⟨l1, rfl⟩ := isI_ex h1
    simp only [toIs_enc] at *
    exact c_laws_equalInts _ _ 
  · exact h.elim
theorem en_laws_equalInts : Enters Try.prog 17 := enters_of Try.func17 (by kernel_rfl) rfl

def g_laws_isIn : List (Nat × PSpec) := []
theorem gok_laws_isIn : GOK Try.prog g_laws_isIn := gok0
def h_laws_isIn : List (Nat × HSpec) := []
theorem hok_laws_isIn : HOK Try.prog h_laws_isIn := hok0
theorem c_laws_isIn (a : List Int) (x : Int)  : ICall Try.prog 19 [.sl 1 (encI a), .num .i64 x] (.bool (a.contains x)) := by
  refine icall_V (G := g_laws_isIn) (H := []) [] tabOK mixed gok_laws_isIn hok_laws_isIn Try.func19 rfl Try.ntmps19 Try.results19 rfl (by kernel_rfl) fun F hN hlen => ?_
  have la := hlen 0 1 _ rfl
  have ea := len_encI a
  rw [ea] at la
  simp only [V_seq, V_block, V_region, W_nil, W_cons, effOp2, KN_seq, effOp, effPure, pureV, ofC, strip, ISt.app, opI, gO, gB, allB, gval, wrapG, dstOK, setD, enumT, Op.operands, Nat.reduceLT, Nat.zero_add, true_and, and_self, implies_true, List.nil_append, List.cons_append, List.append_nil, hN]
  refine V_loop (α := Nat) ⟨tabOK, mixed, gok_laws_isIn, hok_laws_isIn⟩ (by kernel_rfl) (fun i => i ≤ a.length ∧ ∀ j, j < i → a.getD j 0 ≠ x) (fun i => ⟨[(5, .num .i64 i), (0, .sl 1 (encI a)), (1, .num .i64 x)], []⟩) (fun i => a.length - i) 0 id (by simp) (by simp [SLe, SLe0, convTm, convHp, conv, conv0, lkT, lkH, clean]) ?_
  rintro i ⟨hi, hj⟩
  simp only [V_seq, V_region, V_cond, W_nil, W_cons, effOp2, KN_seq, asB, effOp, effPure, pureV, binV, lenV, strip, lkT, ISt.app, opI, gO, gB, allB, gval, wrapG, dstOK, setD, Op.operands, Call.operands, List.append_toArray, reduceIte, reduceCtorEq, Nat.reduceLT, Nat.reduceEqDiff, ne_eq, not_false_eq_true, true_and, and_self, implies_true, List.nil_append, List.cons_append, List.append_nil, tab25, hN, ea]
  refine brW_some (fun h => ?_) (fun h => ?_)
  · have hi' : i < a.length := by simpa using h
    have g1 := getD_encI hi'
    have hw := wr_succ hi' la
    simp only [V_seq, V_skip, V_block, V_region, V_cond, W_nil, W_cons, effOp2, KN_seq, asB, effOp, effPure, pureV, binV, eltV, loadV, iaddrV, strip, lkT, ISt.app, opI, gO, gB, allB, gval, wrapG, dstOK, setD, Op.operands, reduceIte, reduceCtorEq, Nat.reduceLT, Nat.reduceEqDiff, ne_eq, not_false_eq_true, true_and, and_true, and_self, implies_true, forall_const, List.nil_append, List.cons_append, List.append_nil, tab3, tab25, hN, Int.toNat_natCast, ea, Int.toNat_natCast, g1]
    repeat refine And.intro (by omega) ?_
    refine brW_some (fun h => ?_) (fun h => ?_)
    · simp only [V_seq, V_ret, V_region, W_nil, W_cons, effOp2, KN_seq, KXr_nil, KXr_seq, KXr_block, KXr_back, QE, effOp, effPure, pureV, ofC, strip, lkT, lkH, ISt.app, opI, gO, gB, allB, gval, wrapG, dstOK, setD, clean, Gives, Ideal.Fin, conv, conv0, Op.operands, reduceIte, reduceCtorEq, Nat.reduceLT, Nat.reduceEqDiff, true_and, and_true, and_self, implies_true, List.nil_append, List.cons_append, List.append_nil, hN]
      have hx : a.getD i 0 = x := by simpa using h
      have : a.contains x = true := by
        rw [List.contains_iff_mem, ← hx]
        simp [List.getD, hi']
      rw [this]
    · simp only [V_skip, V_region, W_nil, W_cons, effOp2, KN_seq, KN_block, KN_back, effOp, effPure, pureV, binV, ofC, strip, lkT, ISt.app, opI, gO, gB, allB, gval, wrapG, dstOK, setD, Op.operands, reduceIte, reduceCtorEq, Nat.reduceLT, Nat.reduceEqDiff, true_and, and_self, implies_true, List.nil_append, List.cons_append, List.append_nil, hN, hw]
      have hx : a.getD i 0 ≠ x := by simpa using h
      refine ⟨i + 1, id, ⟨by omega, ?_⟩, by simp only []; omega, by simp [SLe, SLe0, convTm, convHp, conv, conv0, lkT, lkH, clean]⟩
      intro j hj'
      rcases Nat.lt_succ_iff_lt_or_eq.1 hj' with h' | rfl
      · exact hj j h'
      · exact hx
  · simp only [V_seq, V_ret, V_exit, V_region, W_nil, W_cons, effOp2, KN_seq, KXr_nil, KXe_nil, KXe_seq, KXe_block, KXe_back, QE, effOp, effPure, pureV, ofC, strip, lkT, lkH, ISt.app, opI, gO, gB, allB, gval, wrapG, dstOK, setD, clean, Gives, Ideal.Fin, conv, conv0, Op.operands, reduceIte, reduceCtorEq, Nat.reduceLT, Nat.reduceEqDiff, true_and, and_true, and_self, implies_true, List.nil_append, List.cons_append, List.append_nil, hN]
    have hie : i = a.length := by simp at h; omega
    have : a.contains x = false := by
      rw [Bool.eq_false_iff, Ne, List.contains_iff_mem]
      intro hm
      obtain ⟨j, h1, h2⟩ := List.mem_iff_getElem.1 hm
      exact hj j (by omega) (by simp [List.getD, h1, h2])
    rw [this]
def sp_laws_isIn : PSpec := ⟨fun xs => match xs with | [.sl 1 aes, .num .i64 x] => isIs aes | _ => False, fun xs => match xs with | [.sl _ aes, .num _ x] => (fun (a : List Int) (x : Int) => .bool (a.contains x)) (toIs aes) x | _ => .junk, false⟩
theorem gk_laws_isIn : ∀ args, sp_laws_isIn.pre args → ICall Try.prog 19 args (sp_laws_isIn.val args) := by
  intro args h
  unfold sp_laws_isIn at h ⊢; simp only at h ⊢; split at h
  · have h0 := h
    obtain ⟨l0, rfl⟩ := isI_ex h0
    simp only [toIs_enc] at *
    exact c_laws_isIn _ _ 
  · exact h.elim
theorem en_laws_isIn : Enters Try.prog 19 := enters_of Try.func19 (by kernel_rfl) rfl

end Go.Proofs.Ytemppebemahkoaa
