/- Lists of lists of ints: as values; equal, copied, counted. -/
import Derived.Test.YtlcndghaendieaaBX
import Derived.Test.YtlcndghaendieaaBU
set_option linter.unusedVariables false
set_option linter.unusedSimpArgs false
set_option maxHeartbeats 4000000
set_option maxRecDepth 100000
namespace Go.Proofs.Ytlcndghaendieaa
open Go Go.Ideal Go.Pl Go.Sort

def encLI (L : List (List Int)) : List IV := L.map fun w => .sl 1 (encI w)
def decLI : IV → List Int
  | .sl _ es => toIs es
  | _ => []
def toLI (es : List IV) : List (List Int) := es.map decLI
def isLI (es : List IV) : Prop := ∃ L, es = encLI L
theorem isLI_enc (L : List (List Int)) : isLI (encLI L) = True := by simp [isLI]; exact ⟨L, rfl⟩
theorem isLI_ex {es : List IV} (h : isLI es) : ∃ L, es = encLI L := h
theorem toLI_enc (L : List (List Int)) : toLI (encLI L) = L := by
  rw [toLI, encLI, List.map_map]
  have : (decLI ∘ fun w => IV.sl 1 (encI w)) = id := by funext w; simp [decLI, toIs_enc]
  rw [this, List.map_id]
theorem len_encLI (L : List (List Int)) : (encLI L).length = L.length := by simp [encLI]
abbrev wAt (L : List (List Int)) (i : Nat) : List Int := L.getD i []
theorem getD_encLI {L : List (List Int)} {i : Nat} (h : i < L.length) : (encLI L).getD i .junk = .sl 1 (encI (wAt L i)) := by
  simp [encLI, wAt, List.getD, h]
theorem encLI_app (L M : List (List Int)) : encLI L ++ encLI M = encLI (L ++ M) := by simp [encLI]
theorem encLI_one (w : List Int) : [IV.sl 1 (encI w)] = encLI [w] := rfl
theorem encLI_take (L : List (List Int)) (k : Nat) : (encLI L).take k = encLI (L.take k) := by simp [encLI, List.map_take]
theorem take_encLI (L : List (List Int)) : (encLI L).take L.length = encLI L := List.take_of_length_le (by rw [len_encLI]; exact Nat.le_refl _)
theorem noSl_encI : ∀ M : List Int, noSlL (encI M) = true
  | [] => rfl
  | x :: M => noSl_encI M

def g_laws_toIntS : List (Nat × PSpec) := []
theorem gok_laws_toIntS : GOK Try.prog g_laws_toIntS := gok0
def h_laws_toIntS : List (Nat × HSpec) := []
theorem hok_laws_toIntS : HOK Try.prog h_laws_toIntS := hok0
theorem c_laws_toIntS (l : List Int) (hsz : l.length ≤ 1048576) : HCall Try.prog 61 [.sl 1 (encI l)] (sm ([])) (.ref 0 0 l.length true) (sm ([(0, .arr 1 3 (encI l))])) := by
  refine hcall_V (G := g_laws_toIntS) (H := []) [] tabOK mixed gok_laws_toIntS hok_laws_toIntS Try.func61 rfl Try.ntmps61 Try.results61 rfl (by kernel_rfl) fun F hN hlen => ?_
  simp only [sm]
  have el := len_encI l
  simp only [V_seq, V_block, V_region, W_nil, W_cons, effOp2, KN_seq, effOp, effPure, effNew, effMake, skipE, pureV, lenV, ofC, strip, lkT, ISt.app, opI, gO, gB, allB, gval, wrapG, dstOK, setD, mentTm, mentHp, IV.ment, zeroElt, noId', enumT, Op.operands, Call.operands, List.append_toArray, reduceIte, reduceCtorEq, cond_true, Bool.or_false, Nat.reduceLT, Nat.reduceLeDiff, Nat.reduceEqDiff, ne_eq, not_false_eq_true, true_and, and_self, implies_true, List.nil_append, List.cons_append, List.append_nil, tab3, tab72, hN, Int.toNat_natCast, el]
  refine ⟨⟨by omega, by omega, by omega, by omega, rfl⟩, ?_⟩
  refine V_loop (α := Nat) ⟨tabOK, mixed, gok_laws_toIntS, hok_laws_toIntS⟩ (by kernel_rfl) (fun i => i ≤ l.length) (fun i => ⟨[(4, .num .i64 i), (3, .ref 7 0 l.length true), (0, .sl 1 (encI l))], [(7, some (.arr 1 3 (encI (l.take i ++ List.replicate (l.length - i) 0))))]⟩) (fun i => l.length - i) 0 id (Nat.zero_le _) (by simp [SLe, SLe0, convTm, convHp, convB, conv, conv0, lkT, lkH, clean, encI]) ?_
  intro i hi
  have hx : ∃ k ty es, IBlk.arr 1 3 (encI (l.take i ++ List.replicate (l.length - i) 0)) = IBlk.arr k ty es := ⟨_, _, _, rfl⟩
  have ex : (encI (l.take i ++ List.replicate (l.length - i) 0)).length = l.length := by rw [len_encI, List.length_append, List.length_take, List.length_replicate]; omega
  simp only [V_seq, V_region, V_cond, W_nil, W_cons, effOp2, KN_seq, asB, effOp, effPure, pureV, binV, lenV, strip, lkT, ISt.app, opI, gO, gB, allB, gval, wrapG, dstOK, setD, Op.operands, Call.operands, List.append_toArray, reduceIte, reduceCtorEq, Nat.reduceLT, Nat.reduceEqDiff, ne_eq, not_false_eq_true, true_and, and_self, implies_true, List.nil_append, List.cons_append, tab72, hN, el]
  refine brW_some (fun h => ?_) (fun h => ?_)
  · have hi' : i < l.length := by simpa using h
    have g0 := getD_encI hi'
    have hw := wr_succ hi' (by rw [maxLen_eq]; omega)
    have hset : (l.take i ++ List.replicate (l.length - i) 0).set i (l.getD i 0) = l.take (i + 1) ++ List.replicate (l.length - (i + 1)) 0 := by
      rw [List.set_append_right _ _ (by rw [List.length_take]; omega), List.length_take, Nat.min_eq_left (Nat.le_of_lt hi'), Nat.sub_self, show l.length - i = (l.length - (i + 1)) + 1 by omega, List.replicate_succ, List.set_cons_zero, take_succ_g (d := 0) hi', List.append_assoc]
      rfl
    have hes := encI_set (l.take i ++ List.replicate (l.length - i) 0) i (l.getD i 0)
    rw [hset] at hes
    simp only [V_seq, V_skip, V_block, V_region, W_nil, W_cons, effOp2, KN_seq, KN_block, KN_back, effOp, effPure, effStore, pureV, storeV, binV, eltV, loadV, iaddrV, over, solid, IV.cells, ofC, strip, lkT, lkH, ISt.app, opI, gO, gB, allB, gval, wrapG, dstOK, setD, eltI, oneI, noId', Op.operands, reduceIte, reduceCtorEq, cond_true, Bool.true_and, Nat.reduceLT, Nat.reduceLeDiff, Nat.reduceEqDiff, Nat.zero_add, ne_eq, not_false_eq_true, true_and, and_true, false_and, and_false, and_self, implies_true, forall_const, List.nil_append, List.cons_append, List.all_cons, List.length_cons, List.length_nil, List.take_zero, tab3, tab72, hN, Int.toNat_natCast, el, g0, hw, ex, hes]
    repeat refine And.intro (by first | omega | (simp; done) | (simp; omega)) ?_
    exact ⟨i + 1, id, by simp only []; omega, by simp only []; omega, by simp [SLe, SLe0, convTm, convHp, convB, conv, conv0, lkT, lkH, clean]⟩
  · have hie : i = l.length := by simp at h; omega
    subst hie
    have hf : l.take l.length ++ List.replicate (l.length - l.length) 0 = l := by simp
    rw [hf] at hx ex ⊢
    simp only [V_seq, V_ret, V_exit, V_region, W_nil, W_cons, effOp2, KN_seq, KXr_nil, KXe_nil, KXe_seq, KXe_block, KXe_back, QE, effOp, effPure, Option.isSome_some, pureV, strip, lkT, lkH, ISt.app, opI, gO, gB, allB, gval, wrapG, dstOK, setD, conv, conv0, Op.operands, reduceIte, reduceCtorEq, Nat.reduceLT, Nat.reduceEqDiff, true_and, and_true, and_self, implies_true, List.map_cons, List.map_nil, List.nil_append, List.cons_append, hN, FinH, resA, resV, SLe, SLe0, convTm, convHp, convB]
    exact ⟨fun x => if x = 0 then 7 else x, by simp; omega⟩
def hs_laws_toIntS : HSpec := ⟨[true], fun xs hp => match xs, hp with | [.sl 1 es], [] => (isIs es) ∧ ((fun (l : List Int) => l.length ≤ 1048576) (toIs es)) | _, _ => False, fun xs hp => match xs, hp with | [.sl 1 es], [] => (fun (l : List Int) => (.ref 0 0 l.length true : IV)) (toIs es) | _, _ => .junk, fun xs hp => match xs, hp with | [.sl 1 es], [] => (fun (l : List Int) => ([(0, .arr 1 3 (encI l))] : List (Nat × IBlk))) (toIs es) | _, _ => []⟩
theorem hk_laws_toIntS : ∀ args hp, hs_laws_toIntS.pre args hp → HCall Try.prog 61 args (sm hp) (hs_laws_toIntS.val args hp) (sm (hs_laws_toIntS.hval args hp)) := by
  intro args hp h
  unfold hs_laws_toIntS at h ⊢; simp only at h ⊢; split at h
  · obtain ⟨h1, h2⟩ := h; obtain ⟨l, rfl⟩ := isI_ex h1; rw [toIs_enc] at *; exact c_laws_toIntS l h2
  · exact h.elim
theorem en_laws_toIntS : Enters Try.prog 61 := enters_of Try.func61 (by kernel_rfl) rfl

def g_laws_eqIntS : List (Nat × PSpec) := []
theorem gok_laws_eqIntS : GOK Try.prog g_laws_eqIntS := gok0
def h_laws_eqIntS : List (Nat × HSpec) := []
theorem hok_laws_eqIntS : HOK Try.prog h_laws_eqIntS := hok0
theorem c_laws_eqIntS (a : List Int) (b : List Int)  : ICall Try.prog 71 [.sl 1 (encI a), .sl 1 (encI b)] (.bool (a == b)) := by
  refine icall_V (G := g_laws_eqIntS) (H := []) [] tabOK mixed gok_laws_eqIntS hok_laws_eqIntS Try.func71 rfl Try.ntmps71 Try.results71 rfl (by kernel_rfl) fun F hN hlen => ?_
  have la := hlen 0 1 _ rfl
  have lb := hlen 1 1 _ rfl
  have ea := len_encI a
  have eb := len_encI b
  rw [ea] at la
  rw [eb] at lb
  simp only [V_seq, V_region, V_cond, W_nil, W_cons, effOp2, KN_seq, asB, effOp, effPure, pureV, binV, lenV, ofC, strip, lkT, ISt.app, opI, gO, gB, allB, gval, wrapG, dstOK, setD, enumT, Op.operands, Call.operands, List.append_toArray, reduceIte, reduceCtorEq, Nat.reduceLT, Nat.reduceEqDiff, Nat.zero_add, ne_eq, not_false_eq_true, true_and, and_self, implies_true, List.nil_append, List.cons_append, List.append_nil, tab72, hN, ea, eb]
  refine brW_some (fun h => ?_) (fun h => ?_)
  · simp only [V_seq, V_ret, V_region, W_nil, W_cons, effOp2, KN_seq, KXr_nil, KXr_seq, QE, effOp, effPure, pureV, ofC, strip, lkT, lkH, ISt.app, opI, gO, gB, allB, gval, wrapG, dstOK, setD, clean, Gives, Ideal.Fin, conv, conv0, Op.operands, reduceIte, reduceCtorEq, Nat.reduceLT, Nat.reduceEqDiff, true_and, and_true, and_self, implies_true, List.nil_append, List.cons_append, List.append_nil, hN]
    have : a ≠ b := by rintro rfl; simp at h
    simp [this]
  · simp only [V_seq, V_skip, V_block, V_region, W_nil, W_cons, effOp2, KN_seq, effOp, effPure, pureV, ofC, strip, ISt.app, opI, gO, gB, allB, gval, wrapG, dstOK, setD, Op.operands, Nat.reduceLT, true_and, and_self, implies_true, List.nil_append, List.cons_append, List.append_nil, hN]
    have hab : a.length = b.length := by simp at h; omega
    refine V_loop (α := Nat) ⟨tabOK, mixed, gok_laws_eqIntS, hok_laws_eqIntS⟩ (by kernel_rfl) (fun i => i ≤ a.length ∧ ∀ j, j < i → a.getD j 0 = b.getD j 0) (fun i => ⟨[(5, .num .i64 i), (0, .sl 1 (encI a)), (1, .sl 1 (encI b))], []⟩) (fun i => a.length - i) 0 id (by simp) (by simp [SLe, SLe0, convTm, convHp, conv, conv0, lkT, lkH, clean]) ?_
    rintro i ⟨hi, hj⟩
    simp only [V_seq, V_region, V_cond, W_nil, W_cons, effOp2, KN_seq, asB, effOp, effPure, pureV, binV, lenV, strip, lkT, ISt.app, opI, gO, gB, allB, gval, wrapG, dstOK, setD, Op.operands, Call.operands, List.append_toArray, reduceIte, reduceCtorEq, Nat.reduceLT, Nat.reduceEqDiff, ne_eq, not_false_eq_true, true_and, and_self, implies_true, List.nil_append, List.cons_append, List.append_nil, tab72, hN, ea]
    refine brW_some (fun h => ?_) (fun h => ?_)
    · have hi' : i < a.length := by simpa using h
      have g1 := getD_encI hi'
      have g2 := getD_encI (hab ▸ hi' : i < b.length)
      have hw := wr_succ hi' la
      simp only [V_seq, V_skip, V_block, V_draw, V_cond, drawW, pairsOf, WD_nil, WD_cons, effOp3, KN_seq, asB, effOp, effPure, pureV, binV, eltV, loadV, iaddrV, strip, lkT, ISt.app, opI, gO, gB, allB, gval, wrapG, dstOK, setD, Op.operands, reduceIte, reduceCtorEq, Nat.reduceLT, Nat.reduceEqDiff, ne_eq, not_false_eq_true, true_and, and_true, and_self, implies_true, forall_const, List.nil_append, List.cons_append, List.append_nil, tab3, tab72, hN, Int.toNat_natCast, ea, eb, Int.toNat_natCast, g1, g2]
      repeat refine And.intro (by omega) ?_
      refine brW_some (fun h => ?_) (fun h => ?_)
      · simp only [V_seq, V_ret, V_region, W_nil, W_cons, effOp2, KN_seq, KXr_nil, KXr_seq, KXr_block, KXr_back, QE, effOp, effPure, pureV, ofC, strip, lkT, lkH, ISt.app, opI, gO, gB, allB, gval, wrapG, dstOK, setD, clean, Gives, Ideal.Fin, conv, conv0, Op.operands, reduceIte, reduceCtorEq, Nat.reduceLT, Nat.reduceEqDiff, true_and, and_true, and_self, implies_true, List.nil_append, List.cons_append, List.append_nil, hN]
        have : a ≠ b := by rintro rfl; simp at h
        simp [this]
      · simp only [V_skip, V_region, W_nil, W_cons, effOp2, KN_seq, KN_block, KN_back, effOp, effPure, pureV, binV, ofC, strip, lkT, ISt.app, opI, gO, gB, allB, gval, wrapG, dstOK, setD, Op.operands, reduceIte, reduceCtorEq, Nat.reduceLT, Nat.reduceEqDiff, true_and, and_self, implies_true, List.nil_append, List.cons_append, List.append_nil, hN, hw]
        refine ⟨i + 1, id, ⟨by omega, ?_⟩, by simp only []; omega, by simp [SLe, SLe0, convTm, convHp, conv, conv0, lkT, lkH, clean]⟩
        intro j hj'
        rcases Nat.lt_succ_iff_lt_or_eq.1 hj' with h' | rfl
        · exact hj j h'
        · simpa using h
    · simp only [V_seq, V_ret, V_exit, V_region, W_nil, W_cons, effOp2, KN_seq, KXr_nil, KXe_nil, KXe_seq, KXe_block, KXe_back, QE, effOp, effPure, pureV, ofC, strip, lkT, lkH, ISt.app, opI, gO, gB, allB, gval, wrapG, dstOK, setD, clean, Gives, Ideal.Fin, conv, conv0, Op.operands, reduceIte, reduceCtorEq, Nat.reduceLT, Nat.reduceEqDiff, true_and, and_true, and_self, implies_true, List.nil_append, List.cons_append, List.append_nil, hN]
      have hie : i = a.length := by simp at h; omega
      have : a = b := eq_of_getD hab (fun j h' => hj j (by omega))
      simp [this]
def sp_laws_eqIntS : PSpec := ⟨fun xs => match xs with | [.sl 1 aes, .sl 1 bes] => isIs aes ∧ isIs bes | _ => False, fun xs => match xs with | [.sl _ aes, .sl _ bes] => (fun (a : List Int) (b : List Int) => .bool (a == b)) (toIs aes) (toIs bes) | _ => .junk, false⟩
theorem gk_laws_eqIntS : ∀ args, sp_laws_eqIntS.pre args → ICall Try.prog 71 args (sp_laws_eqIntS.val args) := by
  intro args h
  unfold sp_laws_eqIntS at h ⊢; simp only at h ⊢; split at h
  · obtain ⟨h0, h1⟩ := h
    obtain ⟨l0, rfl⟩ := isI_ex h0
    obtain ⟨l1, rfl⟩ := isI_ex h1
    simp only [toIs_enc] at *
    exact c_laws_eqIntS _ _ 
  · exact h.elim
theorem en_laws_eqIntS : Enters Try.prog 71 := enters_of Try.func71 (by kernel_rfl) rfl

def g_laws_toIntS_v : List (Nat × PSpec) := []
theorem gok_laws_toIntS_v : GOK Try.prog g_laws_toIntS_v := gok0
def h_laws_toIntS_v : List (Nat × HSpec) := []
theorem hok_laws_toIntS_v : HOK Try.prog h_laws_toIntS_v := hok0
theorem c_laws_toIntS_v (l : List Int) (hsz : l.length ≤ 1048576) : ICallF Try.prog 61 [.sl 1 (encI l)] (.sl 1 (encI l)) := by
  exact icallF_ref (c_laws_toIntS l hsz) (len_encI _).symm (noSl_encI _)
def sp_laws_toIntS_v : PSpec := ⟨fun xs => match xs with | [.sl 1 les] => isIs les ∧ ((fun (l : List Int) => l.length ≤ 1048576) (toIs les)) | _ => False, fun xs => match xs with | [.sl _ les] => (fun (l : List Int) => .sl 1 (encI l)) (toIs les) | _ => .junk, true⟩
theorem gk_laws_toIntS_v : ∀ args, sp_laws_toIntS_v.pre args → ICallF Try.prog 61 args (sp_laws_toIntS_v.val args) ∧ ∀ id, (sp_laws_toIntS_v.val args).ment id = false := by
  intro args h
  unfold sp_laws_toIntS_v at h ⊢; simp only at h ⊢; split at h
  · obtain ⟨h0, h1⟩ := h
    obtain ⟨l0, rfl⟩ := isI_ex h0
    simp only [toIs_enc] at *
    exact ⟨c_laws_toIntS_v _ h1, fun id => rfl⟩
  · exact h.elim
theorem en_laws_toIntS_v : Enters Try.prog 61 := enters_of Try.func61 (by kernel_rfl) rfl

def g_laws_eqIntSS : List (Nat × PSpec) := [(71, sp_laws_eqIntS)]
theorem gok_laws_eqIntSS : GOK Try.prog g_laws_eqIntSS := gok_cons gk_laws_eqIntS en_laws_eqIntS (gok0)
theorem lk_laws_eqIntSS_laws_eqIntS : lkG g_laws_eqIntSS 71 = sp_laws_eqIntS := rfl
def h_laws_eqIntSS : List (Nat × HSpec) := []
theorem hok_laws_eqIntSS : HOK Try.prog h_laws_eqIntSS := hok0
theorem c_laws_eqIntSS (a : List (List Int)) (b : List (List Int))  : ICall Try.prog 28 [.sl 1 (encLI a), .sl 1 (encLI b)] (.bool (a == b)) := by
  refine icall_V (G := g_laws_eqIntSS) (H := []) [(6, [(0, 8), (1, 8), (2, 8), (4, 8), (5, 8), (6, 8)])] tabOK mixed gok_laws_eqIntSS hok_laws_eqIntSS Try.func28 rfl Try.ntmps28 Try.results28 rfl (by kernel_rfl) fun F hN hlen => ?_
  have la := hlen 0 1 _ rfl
  have lb := hlen 1 1 _ rfl
  have ea := len_encLI a
  have eb := len_encLI b
  rw [ea] at la
  rw [eb] at lb
  simp only [V_seq, V_region, V_cond, W_nil, W_cons, effOp2, KN_seq, asB, effOp, effPure, pureV, binV, lenV, ofC, strip, lkT, ISt.app, opI, gO, gB, allB, gval, wrapG, dstOK, setD, enumT, Op.operands, Call.operands, List.append_toArray, reduceIte, reduceCtorEq, Nat.reduceLT, Nat.reduceEqDiff, Nat.zero_add, ne_eq, not_false_eq_true, true_and, and_self, implies_true, List.nil_append, List.cons_append, List.append_nil, tab45, hN, ea, eb]
  refine brW_some (fun h => ?_) (fun h => ?_)
  · simp only [V_seq, V_ret, V_region, W_nil, W_cons, effOp2, KN_seq, KXr_nil, KXr_seq, QE, effOp, effPure, pureV, ofC, strip, lkT, lkH, ISt.app, opI, gO, gB, allB, gval, wrapG, dstOK, setD, clean, Gives, Ideal.Fin, conv, conv0, Op.operands, reduceIte, reduceCtorEq, Nat.reduceLT, Nat.reduceEqDiff, true_and, and_true, and_self, implies_true, List.nil_append, List.cons_append, List.append_nil, hN]
    have : a ≠ b := by rintro rfl; simp at h
    simp [this]
  · simp only [V_seq, V_skip, V_block, V_region, W_nil, W_cons, effOp2, KN_seq, effOp, effPure, pureV, ofC, strip, ISt.app, opI, gO, gB, allB, gval, wrapG, dstOK, setD, Op.operands, Nat.reduceLT, true_and, and_self, implies_true, List.nil_append, List.cons_append, List.append_nil, hN]
    have hab : a.length = b.length := by simp at h; omega
    refine V_loop (α := Nat) ⟨tabOK, mixed, gok_laws_eqIntSS, hok_laws_eqIntSS⟩ (by kernel_rfl) (fun i => i ≤ a.length ∧ ∀ j, j < i → wAt a j = wAt b j) (fun i => ⟨[(5, .num .i64 i), (0, .sl 1 (encLI a)), (1, .sl 1 (encLI b))], []⟩) (fun i => a.length - i) 0 id (by simp) (by simp [SLe, SLe0, convTm, convHp, conv, conv0, lkT, lkH, clean]) ?_
    rintro i ⟨hi, hj⟩
    simp only [V_seq, V_region, V_cond, W_nil, W_cons, effOp2, KN_seq, asB, effOp, effPure, pureV, binV, lenV, strip, lkT, ISt.app, opI, gO, gB, allB, gval, wrapG, dstOK, setD, Op.operands, Call.operands, List.append_toArray, reduceIte, reduceCtorEq, Nat.reduceLT, Nat.reduceEqDiff, ne_eq, not_false_eq_true, true_and, and_self, implies_true, List.nil_append, List.cons_append, List.append_nil, tab45, hN, ea]
    refine brW_some (fun h => ?_) (fun h => ?_)
    · have hi' : i < a.length := by simpa using h
      have g1 := getD_encLI hi'
      have g2 := getD_encLI (hab ▸ hi' : i < b.length)
      have hw := wr_succ hi' la
      obtain ⟨x, hx⟩ : ∃ x, wAt a i = x := ⟨_, rfl⟩
      obtain ⟨y, hy⟩ : ∃ y, wAt b i = y := ⟨_, rfl⟩
      rw [hx] at g1
      rw [hy] at g2
      simp only [V_seq, V_skip, V_block, V_draw, V_cond, drawW, WS_nil, pairsOf, W_nil, W_cons, effOp2, effOp3, WI_nil, WI_cons, KN_seq, dynOK, indB, farB, freshB, freshK, freshK1, heapy, asB, effOp, effPure, effCall, giveUp, hasAll, pureV, eltV, loadV, iaddrV, strip, lkT, lkH, ISt.app, opI, gO, gB, allB, gval, wrapG, dstOK, setD, mentTm, mentHp, IV.ment, lendV, lendP, lent, lentP, idsV, idsL, lkHS, flat, clean, callArgs, callFn, allLent, Op.operands, Call.operands, List.append_toArray, reduceIte, reduceCtorEq, cond_true, cond_false, Bool.or_false, Bool.and_true, Bool.and_eq_true, Bool.not_true, Bool.not_false, Nat.reduceLT, Nat.reduceEqDiff, Nat.reduceBEq, ne_eq, not_false_eq_true, true_and, and_true, and_self, implies_true, forall_const, List.map_cons, List.map_nil, List.nil_append, List.cons_append, List.append_nil, List.getD_cons_zero, List.getD_cons_succ, List.take_zero, List.drop_zero, ex_clo, or_self, tab45, tab72, hN, Int.toNat_natCast, isIs_enc, toIs_enc, lk_laws_eqIntSS_laws_eqIntS, sp_laws_eqIntS, ea, eb, Int.toNat_natCast, g1, g2]
      repeat refine And.intro (by omega) ?_
      refine brW_some (fun h => ?_) (fun h => ?_)
      · have hne : x ≠ y := by intro e; rw [e] at h; simp at h
        have : a ≠ b := by
          intro e
          rw [e] at hx
          exact hne (hx.symm.trans hy)
        simp only [V_seq, V_ret, V_region, W_nil, W_cons, effOp2, KN_seq, KXr_nil, KXr_seq, KXr_block, KXr_back, QE, effOp, effPure, pureV, ofC, strip, lkT, lkH, ISt.app, opI, gO, gB, allB, gval, wrapG, dstOK, setD, clean, Gives, Ideal.Fin, conv, conv0, Op.operands, reduceIte, reduceCtorEq, Nat.reduceLT, Nat.reduceEqDiff, true_and, and_true, and_self, implies_true, List.nil_append, List.cons_append, List.append_nil, hN]
        simp [this]
      · have hxy : x = y := by simpa using h
        simp only [V_skip, V_region, W_nil, W_cons, effOp2, KN_seq, KN_block, KN_back, effOp, effPure, pureV, binV, ofC, strip, lkT, ISt.app, opI, gO, gB, allB, gval, wrapG, dstOK, setD, Op.operands, reduceIte, reduceCtorEq, Nat.reduceLT, Nat.reduceEqDiff, true_and, and_self, implies_true, List.nil_append, List.cons_append, List.append_nil, hN, hw]
        refine ⟨i + 1, id, ⟨by omega, ?_⟩, by simp only []; omega, by simp [SLe, SLe0, convTm, convHp, conv, conv0, lkT, lkH, clean]⟩
        intro j hj'
        rcases Nat.lt_succ_iff_lt_or_eq.1 hj' with h' | rfl
        · exact hj j h'
        · rw [hx, hy, hxy]
    · simp only [V_seq, V_ret, V_exit, V_region, W_nil, W_cons, effOp2, KN_seq, KXr_nil, KXe_nil, KXe_seq, KXe_block, KXe_back, QE, effOp, effPure, pureV, ofC, strip, lkT, lkH, ISt.app, opI, gO, gB, allB, gval, wrapG, dstOK, setD, clean, Gives, Ideal.Fin, conv, conv0, Op.operands, reduceIte, reduceCtorEq, Nat.reduceLT, Nat.reduceEqDiff, true_and, and_true, and_self, implies_true, List.nil_append, List.cons_append, List.append_nil, hN]
      have hie : i = a.length := by simp at h; omega
      have : a = b := eq_of_getD hab (fun j h' => hj j (by omega))
      simp [this]
def sp_laws_eqIntSS : PSpec := ⟨fun xs => match xs with | [.sl 1 aes, .sl 1 bes] => isLI aes ∧ isLI bes | _ => False, fun xs => match xs with | [.sl _ aes, .sl _ bes] => (fun (a : List (List Int)) (b : List (List Int)) => .bool (a == b)) (toLI aes) (toLI bes) | _ => .junk, false⟩
theorem gk_laws_eqIntSS : ∀ args, sp_laws_eqIntSS.pre args → ICall Try.prog 28 args (sp_laws_eqIntSS.val args) := by
  intro args h
  unfold sp_laws_eqIntSS at h ⊢; simp only at h ⊢; split at h
  · obtain ⟨h0, h1⟩ := h
    obtain ⟨l0, rfl⟩ := isLI_ex h0
    obtain ⟨l1, rfl⟩ := isLI_ex h1
    simp only [toLI_enc] at *
    exact c_laws_eqIntSS _ _ 
  · exact h.elim
theorem en_laws_eqIntSS : Enters Try.prog 28 := enters_of Try.func28 (by kernel_rfl) rfl


/-! counted -/
def szIV (l : List Int) (left : Int) : Int := if left < (l.length : Int) then -1 else left - (l.length : Int)
def g_laws_szIntS : List (Nat × PSpec) := []
theorem gok_laws_szIntS : GOK Try.prog g_laws_szIntS := gok0
def h_laws_szIntS : List (Nat × HSpec) := []
theorem hok_laws_szIntS : HOK Try.prog h_laws_szIntS := hok0
theorem c_laws_szIntS (l : List Int) (left : Int) (h0 : 0 ≤ left) (h1 : left ≤ 1048576) : ICall Try.prog 56 [.sl 1 (encI l), .num .i64 left] (.num .i64 (szIV l left)) := by
  refine icall_V (G := g_laws_szIntS) (H := []) [] tabOK mixed gok_laws_szIntS hok_laws_szIntS Try.func56 rfl Try.ntmps56 Try.results56 rfl (by kernel_rfl) fun F hN hlen => ?_
  have hl := hlen 0 1 _ rfl
  have el := len_encI l
  rw [el, maxLen_eq] at hl
  have w1 : IntKind.i64.wrap (left - (l.length : Int)) = left - (l.length : Int) := wr (by omega) (by omega)
  by_cases c : left < (l.length : Int)
  · have d1 : decide (left - (l.length : Int) < 0) = true := by simp only [decide_eq_true_eq]; omega
    have hv : szIV l left = -1 := if_pos c
    simp only [V_seq, V_ret, V_region, V_cond, brW_true, W_nil, W_cons, effOp2, KN_seq, KXr_nil, KXr_seq, QE, asB, effOp, effPure, pureV, binV, lenV, ofC, strip, lkT, lkH, ISt.app, opI, gO, gB, allB, gval, wrapG, dstOK, setD, clean, enumT, Gives, Ideal.Fin, conv, conv0, Op.operands, Call.operands, List.append_toArray, reduceIte, reduceCtorEq, Nat.reduceLT, Nat.reduceEqDiff, Nat.zero_add, ne_eq, not_false_eq_true, and_self, implies_true, List.nil_append, List.cons_append, List.append_nil, tab72, hN, el, w1, d1, hv]
  · have d1 : decide (left - (l.length : Int) < 0) = false := by simp only [decide_eq_false_iff_not]; omega
    have hv : szIV l left = left - (l.length : Int) := if_neg c
    simp only [V_seq, V_skip, V_ret, V_region, V_cond, brW_false, W_nil, W_cons, effOp2, KN_seq, KXr_nil, QE, asB, effOp, effPure, pureV, binV, lenV, ofC, strip, lkT, lkH, ISt.app, opI, gO, gB, allB, gval, wrapG, dstOK, setD, clean, enumT, Gives, Ideal.Fin, conv, conv0, Op.operands, Call.operands, List.append_toArray, reduceIte, reduceCtorEq, Nat.reduceLT, Nat.reduceEqDiff, Nat.zero_add, ne_eq, not_false_eq_true, and_self, implies_true, List.nil_append, List.cons_append, List.append_nil, tab72, hN, el, w1, d1, hv]
def sp_laws_szIntS : PSpec := ⟨fun xs => match xs with | [.sl 1 les, .num .i64 left] => isIs les ∧ ((fun (l : List Int) (left : Int) => 0 ≤ left) (toIs les) left) ∧ ((fun (l : List Int) (left : Int) => left ≤ 1048576) (toIs les) left) | _ => False, fun xs => match xs with | [.sl _ les, .num _ left] => (fun (l : List Int) (left : Int) => .num .i64 (szIV l left)) (toIs les) left | _ => .junk, false⟩
theorem gk_laws_szIntS : ∀ args, sp_laws_szIntS.pre args → ICall Try.prog 56 args (sp_laws_szIntS.val args) := by
  intro args h
  unfold sp_laws_szIntS at h ⊢; simp only at h ⊢; split at h
  · obtain ⟨h0, h1, h2⟩ := h
    obtain ⟨l0, rfl⟩ := isI_ex h0
    simp only [toIs_enc] at *
    exact c_laws_szIntS _ _ h1 h2
  · exact h.elim
theorem en_laws_szIntS : Enters Try.prog 56 := enters_of Try.func56 (by kernel_rfl) rfl

def szLN : List (List Int) → Int → Int
  | [], k => k
  | w :: r, k => if k < (w.length : Int) then -1 else szLN r (k - (w.length : Int))
def szLI (L : List (List Int)) (left : Int) : Int := if left < (L.length : Int) then -1 else szLN L (left - (L.length : Int))
theorem szLN_step {L : List (List Int)} {i : Nat} {k : Int} (h : i < L.length) : szLN (L.drop i) k = if k < ((wAt L i).length : Int) then -1 else szLN (L.drop (i + 1)) (k - ((wAt L i).length : Int)) := by
  rw [drop_eq_g (d := []) h]; rfl
theorem szLN_all : ∀ {L : List (List Int)} {k : Int}, 0 ≤ szLN L k → 0 ≤ k → ∀ w ∈ L, (w.length : Int) ≤ k
  | [], k, _, _, w, hw => by simp at hw
  | x :: r, k, h, h0, w, hw => by
    rw [szLN] at h
    split at h
    · omega
    · have ih := szLN_all h (by omega)
      rcases List.mem_cons.1 hw with rfl | hw
      · omega
      · have := ih w hw; omega
theorem szLN_bd : ∀ {L : List (List Int)} {k : Int}, 0 ≤ k → szLN L k ≤ k ∧ -1 ≤ szLN L k
  | [], k, h => by simp [szLN]; omega
  | x :: r, k, h => by
    rw [szLN]
    split
    · omega
    · have := szLN_bd (L := r) (k := k - (x.length : Int)) (by omega); omega
def g_laws_szIntSS : List (Nat × PSpec) := [(56, sp_laws_szIntS)]
theorem gok_laws_szIntSS : GOK Try.prog g_laws_szIntSS := gok_cons gk_laws_szIntS en_laws_szIntS (gok0)
theorem lk_laws_szIntSS_laws_szIntS : lkG g_laws_szIntSS 56 = sp_laws_szIntS := rfl
def h_laws_szIntSS : List (Nat × HSpec) := []
theorem hok_laws_szIntSS : HOK Try.prog h_laws_szIntSS := hok0
theorem c_laws_szIntSS (L : List (List Int)) (left : Int) (h0 : 0 ≤ left) (h1 : left ≤ 1048576) : ICall Try.prog 24 [.sl 1 (encLI L), .num .i64 left] (.num .i64 (szLI L left)) := by
  refine icall_V (G := g_laws_szIntSS) (H := []) [] tabOK mixed gok_laws_szIntSS hok_laws_szIntSS Try.func24 rfl Try.ntmps24 Try.results24 rfl (by kernel_rfl) fun F hN hlen => ?_
  have hl := hlen 0 1 _ rfl
  have el := len_encLI L
  rw [el, maxLen_eq] at hl
  have w1 : IntKind.i64.wrap (left - (L.length : Int)) = left - (L.length : Int) := wr (by omega) (by omega)
  by_cases c : left < (L.length : Int)
  · have d1 : decide (left - (L.length : Int) < 0) = true := by simp only [decide_eq_true_eq]; omega
    have hv : szLI L left = -1 := if_pos c
    simp only [V_seq, V_ret, V_region, V_cond, brW_true, W_nil, W_cons, effOp2, KN_seq, KXr_nil, KXr_seq, QE, asB, effOp, effPure, pureV, binV, lenV, ofC, strip, lkT, lkH, ISt.app, opI, gO, gB, allB, gval, wrapG, dstOK, setD, clean, enumT, Gives, Ideal.Fin, conv, conv0, Op.operands, Call.operands, List.append_toArray, reduceIte, reduceCtorEq, Nat.reduceLT, Nat.reduceEqDiff, Nat.zero_add, ne_eq, not_false_eq_true, and_self, implies_true, List.nil_append, List.cons_append, List.append_nil, tab45, hN, el, w1, d1, hv]
  · have d1 : decide (left - (L.length : Int) < 0) = false := by simp only [decide_eq_false_iff_not]; omega
    have hv : szLI L left = szLN L (left - (L.length : Int)) := if_neg c
    simp only [V_seq, V_skip, V_block, V_region, V_cond, brW_false, W_nil, W_cons, effOp2, KN_seq, asB, effOp, effPure, pureV, binV, lenV, ofC, strip, lkT, ISt.app, opI, gO, gB, allB, gval, wrapG, dstOK, setD, enumT, Op.operands, Call.operands, List.append_toArray, reduceIte, reduceCtorEq, Nat.reduceLT, Nat.reduceEqDiff, Nat.zero_add, ne_eq, not_false_eq_true, true_and, and_self, implies_true, List.nil_append, List.cons_append, List.append_nil, tab45, hN, el, w1, d1]
    refine V_loop (α := Nat × Int) ⟨tabOK, mixed, gok_laws_szIntSS, hok_laws_szIntSS⟩ (by kernel_rfl) (fun b => b.1 ≤ L.length ∧ 0 ≤ b.2 ∧ b.2 ≤ 1048576 ∧ szLI L left = szLN (L.drop b.1) b.2) (fun b => ⟨[(5, .num .i64 b.1), (1, .num .i64 b.2), (0, .sl 1 (encLI L))], []⟩) (fun b => L.length - b.1) (0, left - (L.length : Int)) id ⟨Nat.zero_le _, by simp only []; omega, by simp only []; omega, hv⟩ (by simp [SLe, SLe0, convTm, convHp, conv, conv0, lkT, lkH, clean]) ?_
    rintro ⟨i, k⟩ ⟨hi, k0, k1, hI⟩
    simp only [] at hi k0 k1 hI
    simp only [V_seq, V_region, V_cond, W_nil, W_cons, effOp2, KN_seq, asB, effOp, effPure, pureV, binV, lenV, strip, lkT, ISt.app, opI, gO, gB, allB, gval, wrapG, dstOK, setD, Op.operands, Call.operands, List.append_toArray, reduceIte, reduceCtorEq, Nat.reduceLT, Nat.reduceEqDiff, ne_eq, not_false_eq_true, true_and, and_self, implies_true, List.nil_append, List.cons_append, List.append_nil, tab45, hN, el]
    refine brW_some (fun h => ?_) (fun h => ?_)
    · have hi' : i < L.length := by simpa using h
      have g0 := getD_encLI hi'
      have hw := wr_succ hi' (by rw [maxLen_eq]; omega)
      have hst := szLN_step (k := k) hi'
      obtain ⟨x, hx⟩ : ∃ x, wAt L i = x := ⟨_, rfl⟩
      rw [hx] at g0 hst
      by_cases c2 : k < (x.length : Int)
      · have hs : szIV x k = -1 := if_pos c2
        have d2 : decide ((-1 : Int) < 0) = true := rfl
        rw [if_pos c2] at hst
        have hr : szLI L left = -1 := by rw [hI, hst]
        simp only [V_seq, V_skip, V_ret, V_block, V_region, V_cond, brW_true, W_nil, W_cons, effOp2, KN_seq, KXr_nil, KXr_seq, KXr_block, KXr_back, QE, asB, effOp, effPure, effCall, giveUp, hasAll, pureV, binV, eltV, loadV, iaddrV, ofC, strip, lkT, lkH, ISt.app, opI, gO, gB, allB, gval, wrapG, dstOK, setD, lendV, lendP, lent, lentP, idsV, idsL, lkHS, flat, clean, callArgs, callFn, allLent, Gives, Ideal.Fin, conv, conv0, Op.operands, reduceIte, reduceCtorEq, cond_true, Bool.or_false, Bool.not_true, Nat.reduceLT, Nat.reduceEqDiff, ne_eq, not_false_eq_true, true_and, and_true, and_self, implies_true, forall_const, List.map_cons, List.map_nil, List.nil_append, List.cons_append, List.append_nil, ex_clo, or_self, tab45, tab72, hN, Int.toNat_natCast, isIs_enc, toIs_enc, lk_laws_szIntSS_laws_szIntS, sp_laws_szIntS, el, g0, k0, k1, hs, d2, hr]
        try omega
      · have hs : szIV x k = k - (x.length : Int) := if_neg c2
        have d2 : decide (k - (x.length : Int) < 0) = false := decide_eq_false (by omega)
        rw [if_neg c2] at hst
        simp only [V_seq, V_skip, V_block, V_region, V_cond, brW_false, W_nil, W_cons, effOp2, KN_seq, KN_block, KN_back, asB, effOp, effPure, effCall, giveUp, hasAll, pureV, binV, eltV, loadV, iaddrV, ofC, strip, lkT, lkH, ISt.app, opI, gO, gB, allB, gval, wrapG, dstOK, setD, lendV, lendP, lent, lentP, idsV, idsL, lkHS, flat, clean, callArgs, callFn, allLent, Op.operands, reduceIte, reduceCtorEq, cond_true, Bool.or_false, Bool.not_true, Nat.reduceLT, Nat.reduceEqDiff, ne_eq, not_false_eq_true, true_and, and_true, and_self, implies_true, forall_const, List.map_cons, List.map_nil, List.nil_append, List.cons_append, List.append_nil, ex_clo, or_self, tab45, tab72, hN, Int.toNat_natCast, isIs_enc, toIs_enc, lk_laws_szIntSS_laws_szIntS, sp_laws_szIntS, el, g0, k0, k1, hs, d2, hw]
        repeat refine And.intro (by first | omega | (simp; done) | (simp; omega)) ?_
        exact ⟨(i + 1, k - (x.length : Int)), id, ⟨by simp only []; omega, by simp only []; omega, by simp only []; omega, by simp only []; rw [hI, hst]⟩, by simp only []; omega, by simp [SLe, SLe0, convTm, convHp, conv, conv0, lkT, lkH, clean]⟩
    · have hie : i = L.length := by simp at h; omega
      subst hie
      have hr : szLI L left = k := by rw [hI, List.drop_length]; rfl
      simp only [V_seq, V_ret, V_exit, V_region, W_nil, W_cons, effOp2, KN_seq, KXr_nil, KXe_nil, KXe_seq, KXe_block, KXe_back, QE, effOp, effPure, pureV, strip, lkT, lkH, ISt.app, opI, gO, gB, allB, gval, wrapG, dstOK, setD, clean, Gives, Ideal.Fin, conv, conv0, Op.operands, reduceIte, reduceCtorEq, Nat.reduceLT, Nat.reduceEqDiff, and_self, implies_true, List.nil_append, List.cons_append, List.append_nil, hN, hr]
def sp_laws_szIntSS : PSpec := ⟨fun xs => match xs with | [.sl 1 Les, .num .i64 left] => isLI Les ∧ ((fun (L : List (List Int)) (left : Int) => 0 ≤ left) (toLI Les) left) ∧ ((fun (L : List (List Int)) (left : Int) => left ≤ 1048576) (toLI Les) left) | _ => False, fun xs => match xs with | [.sl _ Les, .num _ left] => (fun (L : List (List Int)) (left : Int) => .num .i64 (szLI L left)) (toLI Les) left | _ => .junk, false⟩
theorem gk_laws_szIntSS : ∀ args, sp_laws_szIntSS.pre args → ICall Try.prog 24 args (sp_laws_szIntSS.val args) := by
  intro args h
  unfold sp_laws_szIntSS at h ⊢; simp only at h ⊢; split at h
  · obtain ⟨h0, h1, h2⟩ := h
    obtain ⟨l0, rfl⟩ := isLI_ex h0
    simp only [toLI_enc] at *
    exact c_laws_szIntSS _ _ h1 h2
  · exact h.elim
theorem en_laws_szIntSS : Enters Try.prog 24 := enters_of Try.func24 (by kernel_rfl) rfl


/-! copied -/
def g_laws_toIntSS : List (Nat × PSpec) := [(61, sp_laws_toIntS_v)]
theorem gok_laws_toIntSS : GOK Try.prog g_laws_toIntSS := gok_consO gk_laws_toIntS_v en_laws_toIntS_v (gok0)
theorem lk_laws_toIntSS_laws_toIntS_v : lkG g_laws_toIntSS 61 = sp_laws_toIntS_v := rfl
def h_laws_toIntSS : List (Nat × HSpec) := []
theorem hok_laws_toIntSS : HOK Try.prog h_laws_toIntSS := hok0
theorem c_laws_toIntSS (L : List (List Int)) (hsz : L.length ≤ 1048576) (hw : ∀ w ∈ L, w.length ≤ 1048576) : HCall Try.prog 26 [.sl 1 (encLI L)] (sm ([])) (.ref 0 0 L.length true) (sm ([(0, .arr 1 72 (encLI L))])) := by
  refine hcall_V (G := g_laws_toIntSS) (H := []) [] tabOK mixed gok_laws_toIntSS hok_laws_toIntSS Try.func26 rfl Try.ntmps26 Try.results26 rfl (by kernel_rfl) fun F hN hlen => ?_
  simp only [sm]
  have el := len_encLI L
  simp only [V_seq, V_block, V_region, W_nil, W_cons, effOp2, KN_seq, effOp, effPure, effNew, effMake, skipE, pureV, lenV, ofC, strip, lkT, ISt.app, opI, gO, gB, allB, gval, wrapG, dstOK, setD, mentTm, mentHp, IV.ment, zeroElt, noId', enumT, Op.operands, Call.operands, List.append_toArray, reduceIte, reduceCtorEq, cond_true, Bool.or_false, Nat.reduceLT, Nat.reduceLeDiff, Nat.reduceEqDiff, ne_eq, not_false_eq_true, true_and, and_self, implies_true, List.nil_append, List.cons_append, List.append_nil, tab45, tab72, hN, Int.toNat_natCast, el]
  refine ⟨⟨by omega, by omega, by omega, by omega, rfl⟩, ?_⟩
  refine V_loop (α := Nat) ⟨tabOK, mixed, gok_laws_toIntSS, hok_laws_toIntSS⟩ (by kernel_rfl) (fun i => i ≤ L.length) (fun i => ⟨[(4, .num .i64 i), (3, .ref 7 0 L.length true), (0, .sl 1 (encLI L))], [(7, some (.arr 1 72 (encLI (L.take i) ++ List.replicate (L.length - i) .nils)))]⟩) (fun i => L.length - i) 0 id (Nat.zero_le _) (by simp [SLe, SLe0, convTm, convHp, convB, conv, conv0, lkT, lkH, clean, encLI]) ?_
  intro i hi
  have hx : ∃ k ty es, IBlk.arr 1 72 (encLI (L.take i) ++ List.replicate (L.length - i) IV.nils) = IBlk.arr k ty es := ⟨_, _, _, rfl⟩
  have ex : (encLI (L.take i) ++ List.replicate (L.length - i) IV.nils).length = L.length := by rw [List.length_append, len_encLI, List.length_take, List.length_replicate]; omega
  simp only [V_seq, V_region, V_cond, W_nil, W_cons, effOp2, KN_seq, asB, effOp, effPure, pureV, binV, lenV, strip, lkT, ISt.app, opI, gO, gB, allB, gval, wrapG, dstOK, setD, Op.operands, Call.operands, List.append_toArray, reduceIte, reduceCtorEq, Nat.reduceLT, Nat.reduceEqDiff, ne_eq, not_false_eq_true, true_and, and_self, implies_true, List.nil_append, List.cons_append, tab45, hN, el]
  refine brW_some (fun h => ?_) (fun h => ?_)
  · have hi' : i < L.length := by simpa using h
    have g0 := getD_encLI hi'
    have hw2 := wr_succ hi' (by rw [maxLen_eq]; omega)
    have hwl := hw (wAt L i) (by rw [wAt, List.getD, List.getElem?_eq_getElem hi']; exact List.getElem_mem hi')
    have hset : (encLI (L.take i) ++ List.replicate (L.length - i) IV.nils).set i (.sl 1 (encI (wAt L i))) = encLI (L.take (i + 1)) ++ List.replicate (L.length - (i + 1)) IV.nils := by
      rw [List.set_append_right _ _ (by rw [len_encLI, List.length_take]; omega), len_encLI, List.length_take, Nat.min_eq_left (Nat.le_of_lt hi'), Nat.sub_self, show L.length - i = (L.length - (i + 1)) + 1 by omega, List.replicate_succ, List.set_cons_zero, take_succ_g (d := []) hi', ← encLI_app, List.append_assoc]
      rfl
    obtain ⟨x, hx0⟩ : ∃ x, wAt L i = x := ⟨_, rfl⟩
    rw [hx0] at g0 hwl hset
    simp only [V_seq, V_skip, V_block, V_region, W_nil, W_cons, effOp2, KN_seq, KN_block, KN_back, effOp, effPure, effStore, effCall, giveUp, hasAll, pureV, storeV, binV, eltV, loadV, iaddrV, over, solid, IV.cells, ofC, strip, lkT, lkH, ISt.app, opI, gO, gB, allB, gval, wrapG, dstOK, setD, eltI, oneI, noId', lendV, lendP, lent, lentP, idsV, idsL, lkHS, flat, clean, callArgs, callFn, allLent, Op.operands, reduceIte, reduceCtorEq, cond_true, Bool.or_false, Bool.or_true, Bool.true_and, Bool.not_true, Nat.reduceLT, Nat.reduceLeDiff, Nat.reduceEqDiff, Nat.zero_add, ne_eq, not_false_eq_true, true_and, and_true, false_and, and_false, and_self, implies_true, forall_const, List.map_cons, List.map_nil, List.nil_append, List.cons_append, List.append_nil, List.all_cons, List.length_cons, List.length_nil, List.take_zero, ex_clo, or_self, tab45, tab72, hN, Int.toNat_natCast, isIs_enc, toIs_enc, lk_laws_toIntSS_laws_toIntS_v, sp_laws_toIntS_v, el, g0, hwl, hw2, ex, hset]
    repeat refine And.intro (by first | omega | (simp; done) | (simp; omega)) ?_
    exact ⟨i + 1, id, by simp only []; omega, by simp only []; omega, by simp [SLe, SLe0, convTm, convHp, convB, conv, conv0, lkT, lkH, clean]; exact (List.take_of_length_le (by simp)).symm⟩
  · have hie : i = L.length := by simp at h; omega
    subst hie
    have hf : encLI (L.take L.length) ++ List.replicate (L.length - L.length) IV.nils = encLI L := by simp
    rw [hf] at hx ex ⊢
    simp only [V_seq, V_ret, V_exit, V_region, W_nil, W_cons, effOp2, KN_seq, KXr_nil, KXe_nil, KXe_seq, KXe_block, KXe_back, QE, effOp, effPure, Option.isSome_some, pureV, strip, lkT, lkH, ISt.app, opI, gO, gB, allB, gval, wrapG, dstOK, setD, conv, conv0, Op.operands, reduceIte, reduceCtorEq, Nat.reduceLT, Nat.reduceEqDiff, true_and, and_true, and_self, implies_true, List.map_cons, List.map_nil, List.nil_append, List.cons_append, hN, FinH, resA, resV, SLe, SLe0, convTm, convHp, convB]
    exact ⟨fun x => if x = 0 then 7 else x, by simp; omega⟩
def hs_laws_toIntSS : HSpec := ⟨[true], fun xs hp => match xs, hp with | [.sl 1 es], [] => (isLI es) ∧ ((fun (L : List (List Int)) => L.length ≤ 1048576) (toLI es)) ∧ ((fun (L : List (List Int)) => ∀ w ∈ L, w.length ≤ 1048576) (toLI es)) | _, _ => False, fun xs hp => match xs, hp with | [.sl 1 es], [] => (fun (L : List (List Int)) => (.ref 0 0 L.length true : IV)) (toLI es) | _, _ => .junk, fun xs hp => match xs, hp with | [.sl 1 es], [] => (fun (L : List (List Int)) => ([(0, .arr 1 72 (encLI L))] : List (Nat × IBlk))) (toLI es) | _, _ => []⟩
theorem hk_laws_toIntSS : ∀ args hp, hs_laws_toIntSS.pre args hp → HCall Try.prog 26 args (sm hp) (hs_laws_toIntSS.val args hp) (sm (hs_laws_toIntSS.hval args hp)) := by
  intro args hp h
  unfold hs_laws_toIntSS at h ⊢; simp only at h ⊢; split at h
  · obtain ⟨h1, h2, h3⟩ := h; obtain ⟨L, rfl⟩ := isLI_ex h1; rw [toLI_enc] at *; exact c_laws_toIntSS L h2 h3
  · exact h.elim
theorem en_laws_toIntSS : Enters Try.prog 26 := enters_of Try.func26 (by kernel_rfl) rfl

def g_laws_toIntSS_v : List (Nat × PSpec) := []
theorem gok_laws_toIntSS_v : GOK Try.prog g_laws_toIntSS_v := gok0
def h_laws_toIntSS_v : List (Nat × HSpec) := [(61, hs_laws_toIntS)]
theorem hok_laws_toIntSS_v : HOK Try.prog h_laws_toIntSS_v := hok_cons hk_laws_toIntS en_laws_toIntS (hok0)
theorem lh_laws_toIntSS_v_laws_toIntS : lkHS h_laws_toIntSS_v 61 = some hs_laws_toIntS := rfl
theorem c_laws_toIntSS_v (L : List (List Int)) (hsz : L.length ≤ 1048576) (hw : ∀ w ∈ L, w.length ≤ 1048576) : ICall Try.prog 26 [.sl 1 (encLI L)] (.sl 1 (encLI L)) := by
  refine icall_of_hcall (fun i => i + 1) (c_laws_toIntSS L hsz hw) ?_ rfl
  simp only [sm]
  exact ⟨⟨⟨_, _, rfl, by rw [len_encLI]; omega, by rw [List.drop_zero, take_encLI], by simp [lkH]⟩, trivial⟩, trivial, List.nodup_nil⟩
def sp_laws_toIntSS_v : PSpec := ⟨fun xs => match xs with | [.sl 1 Les] => isLI Les ∧ ((fun (L : List (List Int)) => L.length ≤ 1048576) (toLI Les)) ∧ ((fun (L : List (List Int)) => ∀ w ∈ L, w.length ≤ 1048576) (toLI Les)) | _ => False, fun xs => match xs with | [.sl _ Les] => (fun (L : List (List Int)) => .sl 1 (encLI L)) (toLI Les) | _ => .junk, false⟩
theorem gk_laws_toIntSS_v : ∀ args, sp_laws_toIntSS_v.pre args → ICall Try.prog 26 args (sp_laws_toIntSS_v.val args) := by
  intro args h
  unfold sp_laws_toIntSS_v at h ⊢; simp only at h ⊢; split at h
  · obtain ⟨h0, h1, h2⟩ := h
    obtain ⟨l0, rfl⟩ := isLI_ex h0
    simp only [toLI_enc] at *
    exact c_laws_toIntSS_v _ h1 h2
  · exact h.elim
theorem en_laws_toIntSS_v : Enters Try.prog 26 := enters_of Try.func26 (by kernel_rfl) rfl

end Go.Proofs.Ytlcndghaendieaa
