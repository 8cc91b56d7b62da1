/- Lists of ints marked and looked at again. -/
import Derived.Test.YtiadicmnbjaknaaBLi
set_option linter.unusedVariables false
set_option linter.unusedSimpArgs false
set_option maxHeartbeats 1600000
set_option maxRecDepth 100000
namespace Go.Proofs.Ytiadicmnbjaknaa
open Go Go.Ideal Go.Pl Go.Sort

def marksI : Nat → Int → List Int
  | 0, _ => []
  | n + 1, k => k :: marksI n (k + 1)
theorem marksI_len : ∀ n k, (marksI n k).length = n
  | 0, _ => rfl
  | n + 1, k => by simp [marksI, marksI_len n]
theorem marksI_at : ∀ n (k : Int) i, i < n → (marksI n k).getD i 0 = k + i
  | n + 1, k, 0, _ => by simp [marksI]
  | n + 1, k, i + 1, h => by
    have := marksI_at n (k + 1) i (by omega)
    simp only [marksI, List.getD, List.getElem?_cons_succ] at this ⊢
    rw [this]; omega
def g_laws_markIntS : List (Nat × PSpec) := []
theorem gok_laws_markIntS : GOK Try.prog g_laws_markIntS := gok0
def h_laws_markIntS : List (Nat × HSpec) := []
theorem hok_laws_markIntS : HOK Try.prog h_laws_markIntS := hok0
theorem c_laws_markIntS (l : List Int) (k : Int) (full : Bool) (hsz : l.length ≤ 2000000) (h0 : 0 ≤ k) (h1 : k ≤ 2000000) : HCall Try.prog 22 [.ref 1000 0 l.length full, .num .i64 k] (sm ([(1000, .arr 1 3 (encI l))])) (.num .i64 (k + (l.length : Int))) (sm ([(1000, .arr 1 3 (encI (marksI l.length k)))])) := by
  refine hcall_V (G := g_laws_markIntS) (H := []) [] tabOK mixed gok_laws_markIntS hok_laws_markIntS Try.func22 rfl Try.ntmps22 Try.results22 rfl (by kernel_rfl) fun F hN hlen => ?_
  simp only [sm]
  have hx : ∃ k ty es, IBlk.arr 1 3 (encI l) = IBlk.arr k ty es := ⟨_, _, _, rfl⟩
  simp only [V_seq, V_block, V_region, W_nil, W_cons, effOp2, KN_seq, effOp, effPure, pureV, ofC, strip, ISt.app, opI, gO, gB, allB, gval, wrapG, dstOK, setD, enumT, Op.operands, Nat.reduceLT, Nat.zero_add, true_and, and_self, implies_true, List.nil_append, List.cons_append, hN]
  refine V_loop (α := Nat × List Int) ⟨tabOK, mixed, gok_laws_markIntS.toF F, hok_laws_markIntS⟩ (by kernel_rfl) (fun b => b.1 ≤ l.length ∧ b.2.length = l.length ∧ ∀ j, j < b.1 → b.2.getD j 0 = k + j) (fun b => ⟨[(5, .num .i64 b.1), (0, .ref 1000 0 l.length full), (1, .num .i64 (k + (b.1 : Int)))], [(1000, some (.arr 1 3 (encI b.2)))]⟩) (fun b => l.length - b.1) (0, l) id ⟨by simp, rfl, fun j h => absurd h (Nat.not_lt_zero j)⟩ (by simp [SLe, SLe0, convTm, convHp, convB, conv, conv0, lkT, lkH, clean, List.take_length]) ?_
  rintro ⟨i, m⟩ ⟨hi, hl, hj⟩
  simp only [] at hi hl hj
  have em := len_encI m
  rw [hl] at em
  have hx : ∃ k ty es, IBlk.arr 1 3 (encI m) = IBlk.arr k ty es := ⟨_, _, _, rfl⟩
  simp only [V_seq, V_region, V_cond, W_nil, W_cons, effOp2, KN_seq, asB, effOp, effPure, pureV, binV, lenV, strip, lkT, ISt.app, opI, gO, gB, allB, gval, wrapG, dstOK, setD, Op.operands, Call.operands, List.append_toArray, reduceIte, reduceCtorEq, Nat.reduceLT, Nat.reduceEqDiff, ne_eq, not_false_eq_true, true_and, and_self, implies_true, List.nil_append, List.cons_append, tab35, hN]
  refine brW_some (fun h => ?_) (fun h => ?_)
  · have hi' : i < l.length := by simpa using h
    have hw := wr_succ hi' (by rw [maxLen_eq]; omega)
    have w1 : IntKind.i64.wrap (k + (i : Int) + 1) = k + ((i + 1 : Nat) : Int) := by rw [wr (by omega) (by omega)]; omega
    have e1 : (encI m).set i (.num .i64 (k + (i : Int))) = encI (m.set i (k + (i : Int))) := encI_set m i _
    have ej : ∀ j, j < i + 1 → (m.set i (k + (i : Int))).getD j 0 = k + j := by
      intro j hj'
      by_cases c : i = j
      · subst c; simp [List.getD, show i < m.length by omega]
      · have := hj j (by omega)
        simp only [List.getD, List.getElem?_set_ne c] at this ⊢; exact this
    simp only [V_seq, V_skip, V_block, V_region, W_nil, W_cons, effOp2, KN_seq, KN_block, KN_back, effOp, effPure, effStore, pureV, storeV, binV, iaddrV, over, solid, IV.cells, ofC, strip, lkT, lkH, ISt.app, opI, gO, gB, allB, gval, wrapG, dstOK, setD, eltI, oneI, noId', Op.operands, reduceIte, reduceCtorEq, cond_true, Bool.true_and, Nat.reduceLT, Nat.reduceLeDiff, Nat.reduceEqDiff, Nat.zero_add, ne_eq, not_false_eq_true, true_and, and_true, false_and, and_false, and_self, implies_true, forall_const, List.nil_append, List.cons_append, List.all_cons, List.length_cons, List.length_nil, List.take_zero, tab3, tab35, hN, Int.toNat_natCast, hw, em, w1, e1]
    repeat refine And.intro (by first | omega | (simp; done) | (simp; omega)) ?_
    exact ⟨(i + 1, m.set i (k + (i : Int))), id, ⟨by simp only []; omega, by simp only [List.length_set]; omega, ej⟩, by simp only []; omega, by simp [SLe, SLe0, convTm, convHp, convB, conv, conv0, lkT, lkH, clean, List.take_length]⟩
  · have hie : i = l.length := by simp at h; omega
    subst hie
    have hm : m = marksI l.length k := eq_of_getD (d := 0) (by rw [hl, marksI_len]) (fun j h' => (hj j (by omega)).trans (marksI_at _ _ _ (by omega)).symm)
    subst hm
    simp only [V_seq, V_ret, V_exit, V_region, W_nil, W_cons, effOp2, KN_seq, KXr_nil, KXe_nil, KXe_seq, KXe_block, KXe_back, QE, effOp, effPure, pureV, strip, lkT, lkH, ISt.app, opI, gO, gB, allB, gval, wrapG, dstOK, setD, clean, conv, conv0, Op.operands, reduceIte, reduceCtorEq, Nat.reduceLT, Nat.reduceEqDiff, true_and, and_true, and_self, implies_true, List.map_cons, List.map_nil, List.nil_append, List.cons_append, hN, FinH, resA, resV, SLe, SLe0, convTm, convHp, convB]
    exact ⟨id, by simp⟩
def hs_laws_markIntS : HSpec := ⟨[false, false], fun xs hp => match xs, hp with | [.ref 1000 0 n full, .num .i64 k], [(1000, .arr 1 ty es)] => (isIs es) ∧ (ty = 3) ∧ (n = es.length) ∧ ((fun (l : List Int) (k : Int) (full : Bool) => l.length ≤ 2000000) (toIs es) k full) ∧ ((fun (l : List Int) (k : Int) (full : Bool) => 0 ≤ k) (toIs es) k full) ∧ ((fun (l : List Int) (k : Int) (full : Bool) => k ≤ 2000000) (toIs es) k full) | _, _ => False, fun xs hp => match xs, hp with | [.ref 1000 0 n full, .num .i64 k], [(1000, .arr 1 ty es)] => (fun (l : List Int) (k : Int) (full : Bool) => (.num .i64 (k + (l.length : Int)) : IV)) (toIs es) k full | _, _ => .junk, fun xs hp => match xs, hp with | [.ref 1000 0 n full, .num .i64 k], [(1000, .arr 1 ty es)] => (fun (l : List Int) (k : Int) (full : Bool) => ([(1000, .arr 1 3 (encI (marksI l.length k)))] : List (Nat × IBlk))) (toIs es) k full | _, _ => []⟩
theorem hk_laws_markIntS : ∀ args hp, hs_laws_markIntS.pre args hp → HCall Try.prog 22 args (sm hp) (hs_laws_markIntS.val args hp) (sm (hs_laws_markIntS.hval args hp)) := by
  intro args hp h
  unfold hs_laws_markIntS at h ⊢; simp only at h ⊢; split at h
  · obtain ⟨h1, rfl, rfl, h2, h3, h4⟩ := h; obtain ⟨l, rfl⟩ := isI_ex h1; rw [toIs_enc] at *; rw [len_encI]; exact c_laws_markIntS l _ _ h2 h3 h4
  · exact h.elim
theorem en_laws_markIntS : Enters Try.prog 22 := enters_of Try.func22 (by kernel_rfl) rfl

def g_laws_markIntS_n : List (Nat × PSpec) := []
theorem gok_laws_markIntS_n : GOK Try.prog g_laws_markIntS_n := gok0
def h_laws_markIntS_n : List (Nat × HSpec) := []
theorem hok_laws_markIntS_n : HOK Try.prog h_laws_markIntS_n := hok0
theorem c_laws_markIntS_n (k : Int)  : HCall Try.prog 22 [.sl 1 [], .num .i64 k] (sm ([])) (.num .i64 k) (sm ([])) := by
  refine hcall_V (G := g_laws_markIntS_n) (H := []) [] tabOK mixed gok_laws_markIntS_n hok_laws_markIntS_n Try.func22 rfl Try.ntmps22 Try.results22 rfl (by kernel_rfl) fun F hN hlen => ?_
  simp only [sm]
  have d1 : decide (((0 : Nat) : Int) < ((0 : Nat) : Int)) = false := rfl
  simp only [V_seq, V_block, V_region, W_nil, W_cons, effOp2, KN_seq, effOp, effPure, pureV, ofC, strip, ISt.app, opI, gO, gB, allB, gval, wrapG, dstOK, setD, enumT, Op.operands, Nat.reduceLT, Nat.zero_add, true_and, and_self, implies_true, List.nil_append, List.cons_append, List.append_nil, hN]
  refine V_loop (α := Nat) ⟨tabOK, mixed, gok_laws_markIntS_n.toF F, hok_laws_markIntS_n⟩ (by kernel_rfl) (fun i => i = 0) (fun i => ⟨[(5, .num .i64 i), (0, .sl 1 []), (1, .num .i64 k)], []⟩) (fun i => 0) 0 id rfl (by simp [SLe, SLe0, convTm, convHp, conv, conv0, lkT, lkH, clean]) ?_
  rintro i rfl
  simp only [V_seq, V_ret, V_exit, V_region, V_cond, brW_false, W_nil, W_cons, effOp2, KN_seq, KXr_nil, KXe_nil, KXe_seq, KXe_block, KXe_back, QE, asB, effOp, effPure, pureV, binV, lenV, strip, lkT, lkH, ISt.app, opI, gO, gB, allB, gval, wrapG, dstOK, setD, clean, conv, conv0, Op.operands, Call.operands, List.append_toArray, reduceIte, reduceCtorEq, Nat.reduceLT, Nat.reduceEqDiff, ne_eq, not_false_eq_true, true_and, and_self, implies_true, List.map_nil, List.nil_append, List.cons_append, List.append_nil, List.length_nil, tab35, hN, FinH, resA, resV, SLe, SLe0, convTm, convHp, d1]
  exact ⟨id, List.nodup_nil, fun _ _ _ => rfl⟩
def hs_laws_markIntS_n : HSpec := ⟨[false, false], fun xs hp => match xs, hp with | [.sl 1 [], .num .i64 k], [] => True | _, _ => False, fun xs hp => match xs, hp with | [.sl 1 [], .num .i64 k], [] => (fun (k : Int) => (.num .i64 k : IV)) k | _, _ => .junk, fun xs hp => match xs, hp with | [.sl 1 [], .num .i64 k], [] => (fun (k : Int) => ([] : List (Nat × IBlk))) k | _, _ => []⟩
theorem hk_laws_markIntS_n : ∀ args hp, hs_laws_markIntS_n.pre args hp → HCall Try.prog 22 args (sm hp) (hs_laws_markIntS_n.val args hp) (sm (hs_laws_markIntS_n.hval args hp)) := by
  intro args hp h
  unfold hs_laws_markIntS_n at h ⊢; simp only at h ⊢; split at h
  · exact c_laws_markIntS_n _
  · exact h.elim
theorem en_laws_markIntS_n : Enters Try.prog 22 := enters_of Try.func22 (by kernel_rfl) rfl

def heldI : List Int → Int → Int
  | [], k => k
  | p :: l, k => if p = k then heldI l (k + 1) else -1
theorem heldI_marks : ∀ n k, heldI (marksI n k) k = k + (n : Int)
  | 0, k => by simp [marksI, heldI]
  | n + 1, k => by
    rw [marksI, heldI, if_pos rfl, heldI_marks n]
    omega
theorem heldI_step {l : List Int} {i : Nat} {k : Int} (hi : i < l.length) : heldI (l.drop i) k = if l.getD i 0 = k then heldI (l.drop (i + 1)) (k + 1) else -1 := by
  rw [drop_eq_g (d := 0) hi, heldI]
def g_laws_heldIntS : List (Nat × PSpec) := []
theorem gok_laws_heldIntS : GOK Try.prog g_laws_heldIntS := gok0
def h_laws_heldIntS : List (Nat × HSpec) := []
theorem hok_laws_heldIntS : HOK Try.prog h_laws_heldIntS := hok0
theorem c_laws_heldIntS (l : List Int) (k : Int) (hsz : l.length ≤ 2000000) (h0 : 0 ≤ k) (h1 : k ≤ 2000000) : ICall Try.prog 23 [.sl 1 (encI l), .num .i64 k] (.num .i64 (heldI l k)) := by
  refine icall_V (G := g_laws_heldIntS) (H := []) [] tabOK mixed gok_laws_heldIntS hok_laws_heldIntS Try.func23 rfl Try.ntmps23 Try.results23 rfl (by kernel_rfl) fun F hN hlen => ?_
  have el := len_encI l
  simp only [V_seq, V_block, V_region, W_nil, W_cons, effOp2, KN_seq, effOp, effPure, pureV, ofC, strip, ISt.app, opI, gO, gB, allB, gval, wrapG, dstOK, setD, enumT, Op.operands, Nat.reduceLT, Nat.zero_add, true_and, and_self, implies_true, List.nil_append, List.cons_append, List.append_nil, hN]
  refine V_loop (α := Nat) ⟨tabOK, mixed, gok_laws_heldIntS.toF F, hok_laws_heldIntS⟩ (by kernel_rfl) (fun i => i ≤ l.length ∧ heldI l k = heldI (l.drop i) (k + (i : Int))) (fun i => ⟨[(5, .num .i64 i), (0, .sl 1 (encI l)), (1, .num .i64 (k + (i : Int)))], []⟩) (fun i => l.length - i) 0 id (by simp) (by simp [SLe, SLe0, convTm, convHp, conv, conv0, lkT, lkH, clean]) ?_
  rintro i ⟨hi, hj⟩
  simp only [V_seq, V_region, V_cond, W_nil, W_cons, effOp2, KN_seq, asB, effOp, effPure, pureV, binV, lenV, strip, lkT, ISt.app, opI, gO, gB, allB, gval, wrapG, dstOK, setD, Op.operands, Call.operands, List.append_toArray, reduceIte, reduceCtorEq, Nat.reduceLT, Nat.reduceEqDiff, ne_eq, not_false_eq_true, true_and, and_self, implies_true, List.nil_append, List.cons_append, List.append_nil, tab35, hN, el]
  refine brW_some (fun h => ?_) (fun h => ?_)
  · have hi' : i < l.length := by simpa using h
    have g0 := getD_encI hi'
    have hw := wr_succ hi' (by rw [maxLen_eq]; omega)
    rw [heldI_step hi'] at hj
    have w1 : IntKind.i64.wrap (k + (i : Int) + 1) = k + ((i + 1 : Nat) : Int) := by rw [wr (by omega) (by omega)]; omega
    generalize l.getD i 0 = v at *
    by_cases c1 : v = k + (i : Int)
    · have d1 : (v != k + (i : Int)) = false := by simpa using c1
      rw [if_pos c1] at hj
      simp only [V_seq, V_skip, V_block, V_region, V_cond, brW_false, W_nil, W_cons, effOp2, KN_seq, KN_block, KN_back, asB, effOp, effPure, pureV, binV, eltV, loadV, iaddrV, ofC, strip, lkT, ISt.app, opI, gO, gB, allB, gval, wrapG, dstOK, setD, Op.operands, reduceIte, reduceCtorEq, Nat.reduceLT, Nat.reduceEqDiff, ne_eq, not_false_eq_true, true_and, and_true, and_self, implies_true, forall_const, List.nil_append, List.cons_append, List.append_nil, tab3, tab35, hN, Int.toNat_natCast, el, hw, g0, w1, d1]
      repeat refine And.intro (by first | omega | (simp; done) | (simp; omega)) ?_
      exact ⟨i + 1, id, ⟨by omega, by rw [hj]; congr 1; omega⟩, by simp only []; omega, by simp [SLe, SLe0, convTm, convHp, conv, conv0, lkT, lkH, clean]⟩
    · have d1 : (v != k + (i : Int)) = true := by simpa using c1
      rw [if_neg c1] at hj
      simp only [V_seq, V_skip, V_ret, V_block, V_region, V_cond, brW_true, W_nil, W_cons, effOp2, KN_seq, KXr_nil, KXr_seq, KXr_block, KXr_back, QE, asB, effOp, effPure, pureV, binV, eltV, loadV, iaddrV, ofC, strip, lkT, lkH, ISt.app, opI, gO, gB, allB, gval, wrapG, dstOK, setD, clean, Gives, Ideal.Fin, conv, conv0, Op.operands, reduceIte, reduceCtorEq, Nat.reduceLT, Nat.reduceEqDiff, ne_eq, not_false_eq_true, true_and, and_true, and_self, implies_true, forall_const, List.nil_append, List.cons_append, List.append_nil, tab3, tab35, hN, Int.toNat_natCast, el, g0, d1, hj]
      repeat refine And.intro (by first | omega | (simp; done) | (simp; omega)) ?_
      omega
  · have hie : i = l.length := by simp at h; omega
    subst hie
    have hf : heldI l k = k + (l.length : Int) := by rw [hj]; simp [heldI]
    simp only [V_seq, V_ret, V_exit, V_region, W_nil, W_cons, effOp2, KN_seq, KXr_nil, KXe_nil, KXe_seq, KXe_block, KXe_back, QE, effOp, effPure, pureV, strip, lkT, lkH, ISt.app, opI, gO, gB, allB, gval, wrapG, dstOK, setD, clean, Gives, Ideal.Fin, conv, conv0, Op.operands, reduceIte, reduceCtorEq, Nat.reduceLT, Nat.reduceEqDiff, and_self, implies_true, List.nil_append, List.cons_append, List.append_nil, hN, hf]
def sp_laws_heldIntS : PSpec := ⟨fun xs => match xs with | [.sl 1 les, .num .i64 k] => isIs les ∧ ((fun (l : List Int) (k : Int) => l.length ≤ 2000000) (toIs les) k) ∧ ((fun (l : List Int) (k : Int) => 0 ≤ k) (toIs les) k) ∧ ((fun (l : List Int) (k : Int) => k ≤ 2000000) (toIs les) k) | _ => False, fun xs => match xs with | [.sl _ les, .num _ k] => (fun (l : List Int) (k : Int) => .num .i64 (heldI l k)) (toIs les) k | _ => .junk, false⟩
theorem gk_laws_heldIntS : ∀ args, sp_laws_heldIntS.pre args → ICall Try.prog 23 args (sp_laws_heldIntS.val args) := by
  intro args h
  unfold sp_laws_heldIntS at h ⊢; simp only at h ⊢; split at h
  · obtain ⟨h0, h1, h2, h3⟩ := h
    obtain ⟨l0, rfl⟩ := isI_ex h0
    try simp only [toIs_enc] at *
    exact c_laws_heldIntS _ _ h1 h2 h3
  · exact h.elim
theorem en_laws_heldIntS : Enters Try.prog 23 := enters_of Try.func23 (by kernel_rfl) rfl

end Go.Proofs.Ytiadicmnbjaknaa
