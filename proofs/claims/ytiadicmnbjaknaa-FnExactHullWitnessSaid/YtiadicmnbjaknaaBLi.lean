/- Lists of lists of ints: as values; equal, copied, counted. -/
import Derived.Test.YtiadicmnbjaknaaBX
import Derived.Test.YtiadicmnbjaknaaBU
set_option linter.unusedVariables false
set_option linter.unusedSimpArgs false
set_option maxHeartbeats 4000000
set_option maxRecDepth 100000
namespace Go.Proofs.Ytiadicmnbjaknaa
open Go Go.Ideal Go.Pl Go.Sort

def encLI (L : List (List Int)) : List IV := L.map fun w => .sl 1 (encI w)
def decLI : IV → List Int
  | .sl _ es => toIs es
  | _ => []
def toLI (es : List IV) : List (List Int) := es.map decLI
def isLI (es : List IV) : Prop := ∃ L, es = encLI L
theorem isLI_enc (L : List (List Int)) : isLI (encLI L) = True := by simp [isLI]; exact ⟨L, rfl⟩
theorem isLI_ex {es : List IV} (h : isLI es) : ∃ L, es = encLI L := h
theorem toLI_enc (L : List (List Int)) : toLI (encLI L) = L := by
  rw [toLI, encLI, List.map_map]
  have : (decLI ∘ fun w => IV.sl 1 (encI w)) = id := by funext w; simp [decLI, toIs_enc]
  rw [this, List.map_id]
theorem len_encLI (L : List (List Int)) : (encLI L).length = L.length := by simp [encLI]
abbrev wAt (L : List (List Int)) (i : Nat) : List Int := L.getD i []
theorem getD_encLI {L : List (List Int)} {i : Nat} (h : i < L.length) : (encLI L).getD i .junk = .sl 1 (encI (wAt L i)) := by
  simp [encLI, wAt, List.getD, h]
theorem encLI_app (L M : List (List Int)) : encLI L ++ encLI M = encLI (L ++ M) := by simp [encLI]
theorem encLI_one (w : List Int) : [IV.sl 1 (encI w)] = encLI [w] := rfl
theorem encLI_take (L : List (List Int)) (k : Nat) : (encLI L).take k = encLI (L.take k) := by simp [encLI, List.map_take]
theorem take_encLI (L : List (List Int)) : (encLI L).take L.length = encLI L := List.take_of_length_le (by rw [len_encLI]; exact Nat.le_refl _)
theorem noSl_encI : ∀ M : List Int, noSlL (encI M) = true
  | [] => rfl
  | x :: M => noSl_encI M

def g_laws_eqIntS : List (Nat × PSpec) := []
theorem gok_laws_eqIntS : GOK Try.prog g_laws_eqIntS := gok0
def h_laws_eqIntS : List (Nat × HSpec) := []
theorem hok_laws_eqIntS : HOK Try.prog h_laws_eqIntS := hok0
theorem c_laws_eqIntS (a : List Int) (b : List Int)  : ICall Try.prog 20 [.sl 1 (encI a), .sl 1 (encI b)] (.bool (a == b)) := by
  refine icall_V (G := g_laws_eqIntS) (H := []) [] tabOK mixed gok_laws_eqIntS hok_laws_eqIntS Try.func20 rfl Try.ntmps20 Try.results20 rfl (by kernel_rfl) fun F hN hlen => ?_
  have la := hlen 0 1 _ rfl
  have lb := hlen 1 1 _ rfl
  have ea := len_encI a
  have eb := len_encI b
  rw [ea] at la
  rw [eb] at lb
  simp only [V_seq, V_region, V_cond, W_nil, W_cons, effOp2, KN_seq, asB, effOp, effPure, pureV, binV, lenV, ofC, strip, lkT, ISt.app, opI, gO, gB, allB, gval, wrapG, dstOK, setD, enumT, Op.operands, Call.operands, List.append_toArray, reduceIte, reduceCtorEq, Nat.reduceLT, Nat.reduceEqDiff, Nat.zero_add, ne_eq, not_false_eq_true, true_and, and_self, implies_true, List.nil_append, List.cons_append, List.append_nil, tab35, hN, ea, eb]
  refine brW_some (fun h => ?_) (fun h => ?_)
  · simp only [V_seq, V_ret, V_region, W_nil, W_cons, effOp2, KN_seq, KXr_nil, KXr_seq, QE, effOp, effPure, pureV, ofC, strip, lkT, lkH, ISt.app, opI, gO, gB, allB, gval, wrapG, dstOK, setD, clean, Gives, Ideal.Fin, conv, conv0, Op.operands, reduceIte, reduceCtorEq, Nat.reduceLT, Nat.reduceEqDiff, true_and, and_true, and_self, implies_true, List.nil_append, List.cons_append, List.append_nil, hN]
    have : a ≠ b := by rintro rfl; simp at h
    simp [this]
  · simp only [V_seq, V_skip, V_block, V_region, W_nil, W_cons, effOp2, KN_seq, effOp, effPure, pureV, ofC, strip, ISt.app, opI, gO, gB, allB, gval, wrapG, dstOK, setD, Op.operands, Nat.reduceLT, true_and, and_self, implies_true, List.nil_append, List.cons_append, List.append_nil, hN]
    have hab : a.length = b.length := by simp at h; omega
    refine V_loop (α := Nat) ⟨tabOK, mixed, gok_laws_eqIntS.toF F, hok_laws_eqIntS⟩ (by kernel_rfl) (fun i => i ≤ a.length ∧ ∀ j, j < i → a.getD j 0 = b.getD j 0) (fun i => ⟨[(5, .num .i64 i), (0, .sl 1 (encI a)), (1, .sl 1 (encI b))], []⟩) (fun i => a.length - i) 0 id (by simp) (by simp [SLe, SLe0, convTm, convHp, conv, conv0, lkT, lkH, clean]) ?_
    rintro i ⟨hi, hj⟩
    simp only [V_seq, V_region, V_cond, W_nil, W_cons, effOp2, KN_seq, asB, effOp, effPure, pureV, binV, lenV, strip, lkT, ISt.app, opI, gO, gB, allB, gval, wrapG, dstOK, setD, Op.operands, Call.operands, List.append_toArray, reduceIte, reduceCtorEq, Nat.reduceLT, Nat.reduceEqDiff, ne_eq, not_false_eq_true, true_and, and_self, implies_true, List.nil_append, List.cons_append, List.append_nil, tab35, hN, ea]
    refine brW_some (fun h => ?_) (fun h => ?_)
    · have hi' : i < a.length := by simpa using h
      have g1 := getD_encI hi'
      have g2 := getD_encI (hab ▸ hi' : i < b.length)
      have hw := wr_succ hi' la
      simp only [V_seq, V_skip, V_block, V_draw, V_cond, drawW, pairsOf, WD_nil, WD_cons, effOp3, KN_seq, asB, effOp, effPure, pureV, binV, eltV, loadV, iaddrV, strip, lkT, ISt.app, opI, gO, gB, allB, gval, wrapG, dstOK, setD, Op.operands, reduceIte, reduceCtorEq, Nat.reduceLT, Nat.reduceEqDiff, ne_eq, not_false_eq_true, true_and, and_true, and_self, implies_true, forall_const, List.nil_append, List.cons_append, List.append_nil, tab3, tab35, hN, Int.toNat_natCast, ea, eb, Int.toNat_natCast, g1, g2]
      repeat refine And.intro (by omega) ?_
      refine brW_some (fun h => ?_) (fun h => ?_)
      · simp only [V_seq, V_ret, V_region, W_nil, W_cons, effOp2, KN_seq, KXr_nil, KXr_seq, KXr_block, KXr_back, QE, effOp, effPure, pureV, ofC, strip, lkT, lkH, ISt.app, opI, gO, gB, allB, gval, wrapG, dstOK, setD, clean, Gives, Ideal.Fin, conv, conv0, Op.operands, reduceIte, reduceCtorEq, Nat.reduceLT, Nat.reduceEqDiff, true_and, and_true, and_self, implies_true, List.nil_append, List.cons_append, List.append_nil, hN]
        have : a ≠ b := by rintro rfl; simp at h
        simp [this]
      · simp only [V_skip, V_region, W_nil, W_cons, effOp2, KN_seq, KN_block, KN_back, effOp, effPure, pureV, binV, ofC, strip, lkT, ISt.app, opI, gO, gB, allB, gval, wrapG, dstOK, setD, Op.operands, reduceIte, reduceCtorEq, Nat.reduceLT, Nat.reduceEqDiff, true_and, and_self, implies_true, List.nil_append, List.cons_append, List.append_nil, hN, hw]
        refine ⟨i + 1, id, ⟨by omega, ?_⟩, by simp only []; omega, by simp [SLe, SLe0, convTm, convHp, conv, conv0, lkT, lkH, clean]⟩
        intro j hj'
        rcases Nat.lt_succ_iff_lt_or_eq.1 hj' with h' | rfl
        · exact hj j h'
        · simpa using h
    · simp only [V_seq, V_ret, V_exit, V_region, W_nil, W_cons, effOp2, KN_seq, KXr_nil, KXe_nil, KXe_seq, KXe_block, KXe_back, QE, effOp, effPure, pureV, ofC, strip, lkT, lkH, ISt.app, opI, gO, gB, allB, gval, wrapG, dstOK, setD, clean, Gives, Ideal.Fin, conv, conv0, Op.operands, reduceIte, reduceCtorEq, Nat.reduceLT, Nat.reduceEqDiff, true_and, and_true, and_self, implies_true, List.nil_append, List.cons_append, List.append_nil, hN]
      have hie : i = a.length := by simp at h; omega
      have : a = b := eq_of_getD hab (fun j h' => hj j (by omega))
      simp [this]
def sp_laws_eqIntS : PSpec := ⟨fun xs => match xs with | [.sl 1 aes, .sl 1 bes] => isIs aes ∧ isIs bes | _ => False, fun xs => match xs with | [.sl _ aes, .sl _ bes] => (fun (a : List Int) (b : List Int) => .bool (a == b)) (toIs aes) (toIs bes) | _ => .junk, false⟩
theorem gk_laws_eqIntS : ∀ args, sp_laws_eqIntS.pre args → ICall Try.prog 20 args (sp_laws_eqIntS.val args) := by
  intro args h
  unfold sp_laws_eqIntS at h ⊢; simp only at h ⊢; split at h
  · obtain ⟨h0, h1⟩ := h
    obtain ⟨l0, rfl⟩ := isI_ex h0
    obtain ⟨l1, rfl⟩ := isI_ex h1
    try simp only [toIs_enc] at *
    exact c_laws_eqIntS _ _ 
  · exact h.elim
theorem en_laws_eqIntS : Enters Try.prog 20 := enters_of Try.func20 (by kernel_rfl) rfl

def g_laws_eqIntSS : List (Nat × PSpec) := [(20, sp_laws_eqIntS)]
theorem gok_laws_eqIntSS : GOK Try.prog g_laws_eqIntSS := gok_cons gk_laws_eqIntS en_laws_eqIntS (gok0)
theorem lk_laws_eqIntSS_laws_eqIntS : lkG g_laws_eqIntSS 20 = sp_laws_eqIntS := rfl
def h_laws_eqIntSS : List (Nat × HSpec) := []
theorem hok_laws_eqIntSS : HOK Try.prog h_laws_eqIntSS := hok0
theorem c_laws_eqIntSS (a : List (List Int)) (b : List (List Int))  : ICall Try.prog 8 [.sl 1 (encLI a), .sl 1 (encLI b)] (.bool (a == b)) := by
  refine icall_V (G := g_laws_eqIntSS) (H := []) [(6, [(0, 8), (1, 8), (2, 8), (4, 8), (5, 8), (6, 8)])] tabOK mixed gok_laws_eqIntSS hok_laws_eqIntSS Try.func8 rfl Try.ntmps8 Try.results8 rfl (by kernel_rfl) fun F hN hlen => ?_
  have la := hlen 0 1 _ rfl
  have lb := hlen 1 1 _ rfl
  have ea := len_encLI a
  have eb := len_encLI b
  rw [ea] at la
  rw [eb] at lb
  simp only [V_seq, V_region, V_cond, W_nil, W_cons, effOp2, KN_seq, asB, effOp, effPure, pureV, binV, lenV, ofC, strip, lkT, ISt.app, opI, gO, gB, allB, gval, wrapG, dstOK, setD, enumT, Op.operands, Call.operands, List.append_toArray, reduceIte, reduceCtorEq, Nat.reduceLT, Nat.reduceEqDiff, Nat.zero_add, ne_eq, not_false_eq_true, true_and, and_self, implies_true, List.nil_append, List.cons_append, List.append_nil, tab24, hN, ea, eb]
  refine brW_some (fun h => ?_) (fun h => ?_)
  · simp only [V_seq, V_ret, V_region, W_nil, W_cons, effOp2, KN_seq, KXr_nil, KXr_seq, QE, effOp, effPure, pureV, ofC, strip, lkT, lkH, ISt.app, opI, gO, gB, allB, gval, wrapG, dstOK, setD, clean, Gives, Ideal.Fin, conv, conv0, Op.operands, reduceIte, reduceCtorEq, Nat.reduceLT, Nat.reduceEqDiff, true_and, and_true, and_self, implies_true, List.nil_append, List.cons_append, List.append_nil, hN]
    have : a ≠ b := by rintro rfl; simp at h
    simp [this]
  · simp only [V_seq, V_skip, V_block, V_region, W_nil, W_cons, effOp2, KN_seq, effOp, effPure, pureV, ofC, strip, ISt.app, opI, gO, gB, allB, gval, wrapG, dstOK, setD, Op.operands, Nat.reduceLT, true_and, and_self, implies_true, List.nil_append, List.cons_append, List.append_nil, hN]
    have hab : a.length = b.length := by simp at h; omega
    refine V_loop (α := Nat) ⟨tabOK, mixed, gok_laws_eqIntSS.toF F, hok_laws_eqIntSS⟩ (by kernel_rfl) (fun i => i ≤ a.length ∧ ∀ j, j < i → wAt a j = wAt b j) (fun i => ⟨[(5, .num .i64 i), (0, .sl 1 (encLI a)), (1, .sl 1 (encLI b))], []⟩) (fun i => a.length - i) 0 id (by simp) (by simp [SLe, SLe0, convTm, convHp, conv, conv0, lkT, lkH, clean]) ?_
    rintro i ⟨hi, hj⟩
    simp only [V_seq, V_region, V_cond, W_nil, W_cons, effOp2, KN_seq, asB, effOp, effPure, pureV, binV, lenV, strip, lkT, ISt.app, opI, gO, gB, allB, gval, wrapG, dstOK, setD, Op.operands, Call.operands, List.append_toArray, reduceIte, reduceCtorEq, Nat.reduceLT, Nat.reduceEqDiff, ne_eq, not_false_eq_true, true_and, and_self, implies_true, List.nil_append, List.cons_append, List.append_nil, tab24, hN, ea]
    refine brW_some (fun h => ?_) (fun h => ?_)
    · have hi' : i < a.length := by simpa using h
      have g1 := getD_encLI hi'
      have g2 := getD_encLI (hab ▸ hi' : i < b.length)
      have hw := wr_succ hi' la
      obtain ⟨x, hx⟩ : ∃ x, wAt a i = x := ⟨_, rfl⟩
      obtain ⟨y, hy⟩ : ∃ y, wAt b i = y := ⟨_, rfl⟩
      rw [hx] at g1
      rw [hy] at g2
      simp only [V_seq, V_skip, V_block, V_draw, V_cond, drawW, WS_nil, pairsOf, W_nil, W_cons, effOp2, effOp3, WI_nil, WI_cons, KN_seq, dynOK, indB, farB, freshB, freshK, freshK1, heapy, asB, effOp, effPure, effCall, giveUp, hasAll, pureV, eltV, loadV, iaddrV, strip, lkT, lkH, ISt.app, opI, gO, gB, allB, gval, wrapG, dstOK, setD, mentTm, mentHp, IV.ment, lendV, lendP, lent, lentP, idsV, idsL, lkHS, flat, clean, callArgs, callFn, allLent, Op.operands, Call.operands, List.append_toArray, reduceIte, reduceCtorEq, cond_true, cond_false, Bool.or_false, Bool.and_true, Bool.and_eq_true, Bool.not_true, Bool.not_false, Nat.reduceLT, Nat.reduceEqDiff, Nat.reduceBEq, ne_eq, not_false_eq_true, true_and, and_true, and_self, implies_true, forall_const, List.map_cons, List.map_nil, List.nil_append, List.cons_append, List.append_nil, List.getD_cons_zero, List.getD_cons_succ, List.take_zero, List.drop_zero, ex_clo, or_self, tab24, tab35, hN, Int.toNat_natCast, isIs_enc, toIs_enc, lk_laws_eqIntSS_laws_eqIntS, sp_laws_eqIntS, ea, eb, Int.toNat_natCast, g1, g2]
      repeat refine And.intro (by omega) ?_
      refine brW_some (fun h => ?_) (fun h => ?_)
      · have hne : x ≠ y := by intro e; rw [e] at h; simp at h
        have : a ≠ b := by
          intro e
          rw [e] at hx
          exact hne (hx.symm.trans hy)
        simp only [V_seq, V_ret, V_region, W_nil, W_cons, effOp2, KN_seq, KXr_nil, KXr_seq, KXr_block, KXr_back, QE, effOp, effPure, pureV, ofC, strip, lkT, lkH, ISt.app, opI, gO, gB, allB, gval, wrapG, dstOK, setD, clean, Gives, Ideal.Fin, conv, conv0, Op.operands, reduceIte, reduceCtorEq, Nat.reduceLT, Nat.reduceEqDiff, true_and, and_true, and_self, implies_true, List.nil_append, List.cons_append, List.append_nil, hN]
        simp [this]
      · have hxy : x = y := by simpa using h
        simp only [V_skip, V_region, W_nil, W_cons, effOp2, KN_seq, KN_block, KN_back, effOp, effPure, pureV, binV, ofC, strip, lkT, ISt.app, opI, gO, gB, allB, gval, wrapG, dstOK, setD, Op.operands, reduceIte, reduceCtorEq, Nat.reduceLT, Nat.reduceEqDiff, true_and, and_self, implies_true, List.nil_append, List.cons_append, List.append_nil, hN, hw]
        refine ⟨i + 1, id, ⟨by omega, ?_⟩, by simp only []; omega, by simp [SLe, SLe0, convTm, convHp, conv, conv0, lkT, lkH, clean]⟩
        intro j hj'
        rcases Nat.lt_succ_iff_lt_or_eq.1 hj' with h' | rfl
        · exact hj j h'
        · rw [hx, hy, hxy]
    · simp only [V_seq, V_ret, V_exit, V_region, W_nil, W_cons, effOp2, KN_seq, KXr_nil, KXe_nil, KXe_seq, KXe_block, KXe_back, QE, effOp, effPure, pureV, ofC, strip, lkT, lkH, ISt.app, opI, gO, gB, allB, gval, wrapG, dstOK, setD, clean, Gives, Ideal.Fin, conv, conv0, Op.operands, reduceIte, reduceCtorEq, Nat.reduceLT, Nat.reduceEqDiff, true_and, and_true, and_self, implies_true, List.nil_append, List.cons_append, List.append_nil, hN]
      have hie : i = a.length := by simp at h; omega
      have : a = b := eq_of_getD hab (fun j h' => hj j (by omega))
      simp [this]
def sp_laws_eqIntSS : PSpec := ⟨fun xs => match xs with | [.sl 1 aes, .sl 1 bes] => isLI aes ∧ isLI bes | _ => False, fun xs => match xs with | [.sl _ aes, .sl _ bes] => (fun (a : List (List Int)) (b : List (List Int)) => .bool (a == b)) (toLI aes) (toLI bes) | _ => .junk, false⟩
theorem gk_laws_eqIntSS : ∀ args, sp_laws_eqIntSS.pre args → ICall Try.prog 8 args (sp_laws_eqIntSS.val args) := by
  intro args h
  unfold sp_laws_eqIntSS at h ⊢; simp only at h ⊢; split at h
  · obtain ⟨h0, h1⟩ := h
    obtain ⟨l0, rfl⟩ := isLI_ex h0
    obtain ⟨l1, rfl⟩ := isLI_ex h1
    try simp only [toLI_enc] at *
    exact c_laws_eqIntSS _ _ 
  · exact h.elim
theorem en_laws_eqIntSS : Enters Try.prog 8 := enters_of Try.func8 (by kernel_rfl) rfl


/-! counted -/
def szIV (l : List Int) (left : Int) : Int := if left < (l.length : Int) then -1 else left - (l.length : Int)
def szLN : List (List Int) → Int → Int
  | [], k => k
  | w :: r, k => if k < (w.length : Int) then -1 else szLN r (k - (w.length : Int))
def szLI (L : List (List Int)) (left : Int) : Int := if left < (L.length : Int) then -1 else szLN L (left - (L.length : Int))
theorem szLN_step {L : List (List Int)} {i : Nat} {k : Int} (h : i < L.length) : szLN (L.drop i) k = if k < ((wAt L i).length : Int) then -1 else szLN (L.drop (i + 1)) (k - ((wAt L i).length : Int)) := by
  rw [drop_eq_g (d := []) h]; rfl
theorem szLN_all : ∀ {L : List (List Int)} {k : Int}, 0 ≤ szLN L k → 0 ≤ k → ∀ w ∈ L, (w.length : Int) ≤ k
  | [], k, _, _, w, hw => by simp at hw
  | x :: r, k, h, h0, w, hw => by
    rw [szLN] at h
    split at h
    · omega
    · have ih := szLN_all h (by omega)
      rcases List.mem_cons.1 hw with rfl | hw
      · omega
      · have := ih w hw; omega
theorem szLN_bd : ∀ {L : List (List Int)} {k : Int}, 0 ≤ k → szLN L k ≤ k ∧ -1 ≤ szLN L k
  | [], k, h => by simp [szLN]; omega
  | x :: r, k, h => by
    rw [szLN]
    split
    · omega
    · have := szLN_bd (L := r) (k := k - (x.length : Int)) (by omega); omega

/-! copied -/
end Go.Proofs.Ytiadicmnbjaknaa
