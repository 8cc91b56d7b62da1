/- The law on the sweep's triangles: the walks. -/
import Derived.Test.YtbbmeabfmjkldaaB48
import Derived.Test.YtbbmeabfmjkldaaBX
import Derived.Test.YtbbmeabfmjkldaaBO
import Derived.Test.YtbbmeabfmjkldaaBU
set_option linter.unusedVariables false
set_option linter.unusedSimpArgs false
set_option maxHeartbeats 1600000
set_option maxRecDepth 100000
namespace Go.Proofs.Ytbbmeabfmjkldaa
open Go Go.Ideal Go.Pl Go.Sort

/-- What a list is after it was marked from k on. -/
def marksR : Nat → Int → List Tr
  | 0, _ => []
  | n + 1, k => (k, k + 1, k + 2) :: marksR n (k + 3)
theorem marksR_len : ∀ n k, (marksR n k).length = n
  | 0, _ => rfl
  | n + 1, k => by simp [marksR, marksR_len n]
theorem marksR_at : ∀ n (k : Int) i, i < n → tAt (marksR n k) i = (k + 3 * i, k + 3 * i + 1, k + 3 * i + 2)
  | n + 1, k, 0, _ => by simp [marksR]
  | n + 1, k, i + 1, h => by
    have := marksR_at n (k + 3) i (by omega)
    simp only [marksR, tAt, List.getD, List.getElem?_cons_succ] at this ⊢
    rw [this]
    refine Prod.ext ?_ (Prod.ext ?_ ?_) <;> simp only [] <;> omega
def heldR : List Tr → Int → Int
  | [], k => k
  | p :: l, k => if p.1 = k ∧ p.2.1 = k + 1 ∧ p.2.2 = k + 2 then heldR l (k + 3) else -1
theorem heldR_marks : ∀ n k, heldR (marksR n k) k = k + 3 * (n : Int)
  | 0, k => by simp [marksR, heldR]
  | n + 1, k => by
    rw [marksR, heldR, if_pos ⟨rfl, rfl, rfl⟩, heldR_marks n]
    omega
theorem heldR_step {l : List Tr} {i : Nat} {k : Int} (hi : i < l.length) : heldR (l.drop i) k = if (tAt l i).1 = k ∧ (tAt l i).2.1 = k + 1 ∧ (tAt l i).2.2 = k + 2 then heldR (l.drop (i + 1)) (k + 3) else -1 := by
  rw [drop_eq_g (d := (0, 0, 0)) hi, heldR]

def g_laws_markTriangleS : List (Nat × PSpec) := []
theorem gok_laws_markTriangleS : GOK Try.prog g_laws_markTriangleS := gok0
def h_laws_markTriangleS : List (Nat × HSpec) := []
theorem hok_laws_markTriangleS : HOK Try.prog h_laws_markTriangleS := hok0
theorem c_laws_markTriangleS (l : List Tr) (k : Int) (full : Bool) (hsz : l.length ≤ 2000000) (h0 : 0 ≤ k) (h1 : k ≤ 2000000) : HCall Try.prog 24 [.ref 1000 0 l.length full, .num .i64 k] (sm ([(1000, .arr 3 32 (encTs l))])) (.num .i64 (k + 3 * (l.length : Int))) (sm ([(1000, .arr 3 32 (encTs (marksR l.length k)))])) := by
  refine hcall_V (G := g_laws_markTriangleS) (H := []) [] tabOK mixed gok_laws_markTriangleS hok_laws_markTriangleS Try.func24 rfl Try.ntmps24 Try.results24 rfl (by kernel_rfl) fun F hN hlen => ?_
  simp only [sm]
  have hx : ∃ k ty es, IBlk.arr 3 32 (encTs l) = IBlk.arr k ty es := ⟨_, _, _, rfl⟩
  simp only [V_seq, V_block, V_region, W_nil, W_cons, effOp2, KN_seq, effOp, effPure, pureV, ofC, strip, ISt.app, opI, gO, gB, allB, gval, wrapG, dstOK, setD, enumT, Op.operands, Nat.reduceLT, Nat.zero_add, true_and, and_self, implies_true, List.nil_append, List.cons_append, hN]
  refine V_loop (α := Nat × List Tr) ⟨tabOK, mixed, gok_laws_markTriangleS, hok_laws_markTriangleS⟩ (by kernel_rfl) (fun b => b.1 ≤ l.length ∧ b.2.length = l.length ∧ ∀ j, j < b.1 → tAt b.2 j = (k + 3 * j, k + 3 * j + 1, k + 3 * j + 2)) (fun b => ⟨[(5, .num .i64 b.1), (0, .ref 1000 0 l.length full), (1, .num .i64 (k + 3 * (b.1 : Int)))], [(1000, some (.arr 3 32 (encTs b.2)))]⟩) (fun b => l.length - b.1) (0, l) id ⟨by simp, rfl, fun j h => absurd h (Nat.not_lt_zero j)⟩ (by simp [SLe, SLe0, convTm, convHp, convB, conv, conv0, lkT, lkH, clean, List.take_length]) ?_
  rintro ⟨i, m⟩ ⟨hi, hl, hj⟩
  simp only [] at hi hl hj
  have em := len_encTs m
  rw [hl] at em
  have hx : ∃ k ty es, IBlk.arr 3 32 (encTs m) = IBlk.arr k ty es := ⟨_, _, _, rfl⟩
  simp only [V_seq, V_region, V_cond, W_nil, W_cons, effOp2, KN_seq, asB, effOp, effPure, pureV, binV, lenV, strip, lkT, ISt.app, opI, gO, gB, allB, gval, wrapG, dstOK, setD, Op.operands, Call.operands, List.append_toArray, reduceIte, reduceCtorEq, Nat.reduceLT, Nat.reduceEqDiff, ne_eq, not_false_eq_true, true_and, and_self, implies_true, List.nil_append, List.cons_append, tab24, hN]
  refine brW_some (fun h => ?_) (fun h => ?_)
  · have hi' : i < l.length := by simpa using h
    have hw := wr_succ hi' (by rw [maxLen_eq]; omega)
    have g0 := getD_encTs (l := m) (i := i) (by omega)
    obtain ⟨K, hK⟩ : ∃ K, k + 3 * (i : Int) = K := ⟨_, rfl⟩
    obtain ⟨v0, hv0⟩ : ∃ v, tAt m i = v := ⟨_, rfl⟩
    rw [hv0] at g0
    have w1 : IntKind.i64.wrap (K + 1) = K + 1 := by rw [wr (by omega) (by omega)]
    have w2 : IntKind.i64.wrap (K + 1 + 1) = K + 2 := by rw [wr (by omega) (by omega)]; omega
    have w3 : IntKind.i64.wrap (K + 2 + 1) = k + 3 * ((i + 1 : Nat) : Int) := by rw [wr (by omega) (by omega)]; omega
    have e1 : (encTs m).set i (.agg [.num .i64 (K), .num .i64 (v0.2.1), .num .i64 (v0.2.2)]) = encTs (m.set i (K, v0.2.1, v0.2.2)) := encTs_set m i (K, v0.2.1, v0.2.2)
    obtain ⟨m1, hm1⟩ : ∃ z, m.set i (K, v0.2.1, v0.2.2) = z := ⟨_, rfl⟩
    have l1 : m1.length = l.length := by rw [← hm1]; simp; omega
    have a1 : tAt m1 i = (K, v0.2.1, v0.2.2) := by rw [← hm1]; simp [show i < m.length by omega]
    have b1 : ∀ j, i ≠ j → tAt m1 j = tAt m j := fun j hne => by rw [← hm1]; simp [List.getElem?_set_ne hne]
    rw [hm1] at e1
    have g1 := getD_encTs (l := m1) (i := i) (by omega)
    rw [a1] at g1
    have hx1 : ∃ k ty es, IBlk.arr 3 32 (encTs m1) = IBlk.arr k ty es := ⟨_, _, _, rfl⟩
    have em1 := len_encTs m1
    rw [l1] at em1
    have e2 : (encTs m1).set i (.agg [.num .i64 (K), .num .i64 (K + 1), .num .i64 (v0.2.2)]) = encTs (m1.set i (K, K + 1, v0.2.2)) := encTs_set m1 i (K, K + 1, v0.2.2)
    obtain ⟨m2, hm2⟩ : ∃ z, m1.set i (K, K + 1, v0.2.2) = z := ⟨_, rfl⟩
    have l2 : m2.length = l.length := by rw [← hm2]; simp; omega
    have a2 : tAt m2 i = (K, K + 1, v0.2.2) := by rw [← hm2]; simp [show i < m1.length by omega]
    have b2 : ∀ j, i ≠ j → tAt m2 j = tAt m1 j := fun j hne => by rw [← hm2]; simp [List.getElem?_set_ne hne]
    rw [hm2] at e2
    have g2 := getD_encTs (l := m2) (i := i) (by omega)
    rw [a2] at g2
    have hx2 : ∃ k ty es, IBlk.arr 3 32 (encTs m2) = IBlk.arr k ty es := ⟨_, _, _, rfl⟩
    have em2 := len_encTs m2
    rw [l2] at em2
    have e3 : (encTs m2).set i (.agg [.num .i64 (K), .num .i64 (K + 1), .num .i64 (K + 2)]) = encTs (m2.set i (K, K + 1, K + 2)) := encTs_set m2 i (K, K + 1, K + 2)
    obtain ⟨m3, hm3⟩ : ∃ z, m2.set i (K, K + 1, K + 2) = z := ⟨_, rfl⟩
    have l3 : m3.length = l.length := by rw [← hm3]; simp; omega
    have a3 : tAt m3 i = (K, K + 1, K + 2) := by rw [← hm3]; simp [show i < m2.length by omega]
    have b3 : ∀ j, i ≠ j → tAt m3 j = tAt m2 j := fun j hne => by rw [← hm3]; simp [List.getElem?_set_ne hne]
    rw [hm3] at e3
    have ej : ∀ j, j < i + 1 → tAt m3 j = (k + 3 * j, k + 3 * j + 1, k + 3 * j + 2) := by
      intro j hj'
      by_cases c : i = j
      · subst c; rw [a3, ← hK]
      · rw [b3 j c, b2 j c, b1 j c]; exact hj j (by omega)
    simp only [V_seq, V_skip, V_block, V_region, W_nil, W_cons, effOp2, KN_seq, KN_block, KN_back, effOp, effPure, effStore, pureV, storeV, binV, faddrV, iaddrV, over, solid, IV.cells, ofC, strip, lkT, lkH, ISt.app, opI, gO, gB, allB, gval, wrapG, dstOK, setD, eltI, oneI, noId', Op.operands, reduceIte, reduceCtorEq, cond_true, Bool.and_true, Nat.reduceAdd, Nat.reduceLT, Nat.reduceLeDiff, Nat.reduceEqDiff, Nat.add_zero, Nat.zero_add, ne_eq, not_false_eq_true, true_and, and_true, false_and, and_false, and_self, implies_true, forall_const, List.nil_append, List.cons_append, List.append_nil, List.all_cons, List.all_nil, Option.some.injEq, List.getD_cons_zero, List.getD_cons_succ, List.length_cons, List.length_nil, List.take_succ_cons, List.take_zero, List.drop_succ_cons, List.drop_zero, List.drop_nil, tab3, tab24, tab32, hN, Int.toNat_natCast, hK, hx, hw, em, g0, w1, w2, w3, e1, g1, hx1, em1, e2, g2, hx2, em2, e3]
    repeat refine And.intro (by first | omega | (simp; done) | (simp; omega)) ?_
    exact ⟨(i + 1, m3), id, ⟨by simp only []; omega, by simp only []; omega, ej⟩, by simp only []; omega, by simp [SLe, SLe0, convTm, convHp, convB, conv, conv0, lkT, lkH, clean, List.take_length]⟩
  · have hie : i = l.length := by simp at h; omega
    subst hie
    have hm : m = marksR l.length k := eq_of_getD (d := (0, 0, 0)) (by rw [hl, marksR_len]) (fun j h' => (hj j (by omega)).trans (marksR_at _ _ _ (by omega)).symm)
    subst hm
    simp only [V_seq, V_ret, V_exit, V_region, W_nil, W_cons, effOp2, KN_seq, KXr_nil, KXe_nil, KXe_seq, KXe_block, KXe_back, QE, effOp, effPure, pureV, strip, lkT, lkH, ISt.app, opI, gO, gB, allB, gval, wrapG, dstOK, setD, clean, conv, conv0, Op.operands, reduceIte, reduceCtorEq, Nat.reduceLT, Nat.reduceEqDiff, true_and, and_true, and_self, implies_true, List.map_cons, List.map_nil, List.nil_append, List.cons_append, hN, FinH, resA, resV, SLe, SLe0, convTm, convHp, convB]
    exact ⟨id, by simp⟩
def hs_laws_markTriangleS : HSpec := ⟨[false, false], fun xs hp => match xs, hp with | [.ref 1000 0 n full, .num .i64 k], [(1000, .arr 3 ty es)] => (isTs es) ∧ (ty = 32) ∧ (n = es.length) ∧ ((fun (l : List Tr) (k : Int) (full : Bool) => l.length ≤ 2000000) (toTs es) k full) ∧ ((fun (l : List Tr) (k : Int) (full : Bool) => 0 ≤ k) (toTs es) k full) ∧ ((fun (l : List Tr) (k : Int) (full : Bool) => k ≤ 2000000) (toTs es) k full) | _, _ => False, fun xs hp => match xs, hp with | [.ref 1000 0 n full, .num .i64 k], [(1000, .arr 3 ty es)] => (fun (l : List Tr) (k : Int) (full : Bool) => (.num .i64 (k + 3 * (l.length : Int)) : IV)) (toTs es) k full | _, _ => .junk, fun xs hp => match xs, hp with | [.ref 1000 0 n full, .num .i64 k], [(1000, .arr 3 ty es)] => (fun (l : List Tr) (k : Int) (full : Bool) => ([(1000, .arr 3 32 (encTs (marksR l.length k)))] : List (Nat × IBlk))) (toTs es) k full | _, _ => []⟩
theorem hk_laws_markTriangleS : ∀ args hp, hs_laws_markTriangleS.pre args hp → HCall Try.prog 24 args (sm hp) (hs_laws_markTriangleS.val args hp) (sm (hs_laws_markTriangleS.hval args hp)) := by
  intro args hp h
  unfold hs_laws_markTriangleS at h ⊢; simp only at h ⊢; split at h
  · obtain ⟨h1, rfl, rfl, h2, h3, h4⟩ := h; obtain ⟨l, rfl⟩ := isT_ex h1; rw [toTs_enc] at *; rw [len_encTs]; exact c_laws_markTriangleS l _ _ h2 h3 h4
  · exact h.elim
theorem en_laws_markTriangleS : Enters Try.prog 24 := enters_of Try.func24 (by kernel_rfl) rfl

def g_laws_markTriangleS_n : List (Nat × PSpec) := []
theorem gok_laws_markTriangleS_n : GOK Try.prog g_laws_markTriangleS_n := gok0
def h_laws_markTriangleS_n : List (Nat × HSpec) := []
theorem hok_laws_markTriangleS_n : HOK Try.prog h_laws_markTriangleS_n := hok0
theorem c_laws_markTriangleS_n (k : Int)  : HCall Try.prog 24 [.sl 3 [], .num .i64 k] (sm ([])) (.num .i64 k) (sm ([])) := by
  refine hcall_V (G := g_laws_markTriangleS_n) (H := []) [] tabOK mixed gok_laws_markTriangleS_n hok_laws_markTriangleS_n Try.func24 rfl Try.ntmps24 Try.results24 rfl (by kernel_rfl) fun F hN hlen => ?_
  simp only [sm]
  have d1 : decide (((0 : Nat) : Int) < ((0 : Nat) : Int)) = false := rfl
  simp only [V_seq, V_block, V_region, W_nil, W_cons, effOp2, KN_seq, effOp, effPure, pureV, ofC, strip, ISt.app, opI, gO, gB, allB, gval, wrapG, dstOK, setD, enumT, Op.operands, Nat.reduceLT, Nat.zero_add, true_and, and_self, implies_true, List.nil_append, List.cons_append, List.append_nil, hN]
  refine V_loop (α := Nat) ⟨tabOK, mixed, gok_laws_markTriangleS_n, hok_laws_markTriangleS_n⟩ (by kernel_rfl) (fun i => i = 0) (fun i => ⟨[(5, .num .i64 i), (0, .sl 3 []), (1, .num .i64 k)], []⟩) (fun i => 0) 0 id rfl (by simp [SLe, SLe0, convTm, convHp, conv, conv0, lkT, lkH, clean]) ?_
  rintro i rfl
  simp only [V_seq, V_ret, V_exit, V_region, V_cond, brW_false, W_nil, W_cons, effOp2, KN_seq, KXr_nil, KXe_nil, KXe_seq, KXe_block, KXe_back, QE, asB, effOp, effPure, pureV, binV, lenV, strip, lkT, lkH, ISt.app, opI, gO, gB, allB, gval, wrapG, dstOK, setD, clean, conv, conv0, Op.operands, Call.operands, List.append_toArray, reduceIte, reduceCtorEq, Nat.reduceLT, Nat.reduceEqDiff, ne_eq, not_false_eq_true, true_and, and_self, implies_true, List.map_nil, List.nil_append, List.cons_append, List.append_nil, List.length_nil, tab24, hN, FinH, resA, resV, SLe, SLe0, convTm, convHp, d1]
  exact ⟨id, List.nodup_nil, fun _ _ _ => rfl⟩
def hs_laws_markTriangleS_n : HSpec := ⟨[false, false], fun xs hp => match xs, hp with | [.sl 3 [], .num .i64 k], [] => True | _, _ => False, fun xs hp => match xs, hp with | [.sl 3 [], .num .i64 k], [] => (fun (k : Int) => (.num .i64 k : IV)) k | _, _ => .junk, fun xs hp => match xs, hp with | [.sl 3 [], .num .i64 k], [] => (fun (k : Int) => ([] : List (Nat × IBlk))) k | _, _ => []⟩
theorem hk_laws_markTriangleS_n : ∀ args hp, hs_laws_markTriangleS_n.pre args hp → HCall Try.prog 24 args (sm hp) (hs_laws_markTriangleS_n.val args hp) (sm (hs_laws_markTriangleS_n.hval args hp)) := by
  intro args hp h
  unfold hs_laws_markTriangleS_n at h ⊢; simp only at h ⊢; split at h
  · exact c_laws_markTriangleS_n _
  · exact h.elim
theorem en_laws_markTriangleS_n : Enters Try.prog 24 := enters_of Try.func24 (by kernel_rfl) rfl

def hs_laws_markTriangleS_or : HSpec := hs_or hs_laws_markTriangleS_n hs_laws_markTriangleS sel_sl
theorem hk_laws_markTriangleS_or : ∀ args hp, hs_laws_markTriangleS_or.pre args hp → HCall Try.prog 24 args (sm hp) (hs_laws_markTriangleS_or.val args hp) (sm (hs_laws_markTriangleS_or.hval args hp)) := hk_or hk_laws_markTriangleS_n hk_laws_markTriangleS
theorem en_laws_markTriangleS_or : Enters Try.prog 24 := en_laws_markTriangleS
def g_laws_heldTriangleS : List (Nat × PSpec) := []
theorem gok_laws_heldTriangleS : GOK Try.prog g_laws_heldTriangleS := gok0
def h_laws_heldTriangleS : List (Nat × HSpec) := []
theorem hok_laws_heldTriangleS : HOK Try.prog h_laws_heldTriangleS := hok0
theorem c_laws_heldTriangleS (l : List Tr) (k : Int) (hsz : l.length ≤ 2000000) (h0 : 0 ≤ k) (h1 : k ≤ 2000000) : ICall Try.prog 25 [.sl 3 (encTs l), .num .i64 k] (.num .i64 (heldR l k)) := by
  refine icall_V (G := g_laws_heldTriangleS) (H := []) [] tabOK mixed gok_laws_heldTriangleS hok_laws_heldTriangleS Try.func25 rfl Try.ntmps25 Try.results25 rfl (by kernel_rfl) fun F hN hlen => ?_
  have el := len_encTs l
  simp only [V_seq, V_block, V_region, W_nil, W_cons, effOp2, KN_seq, effOp, effPure, pureV, ofC, strip, ISt.app, opI, gO, gB, allB, gval, wrapG, dstOK, setD, enumT, Op.operands, Nat.reduceLT, Nat.zero_add, true_and, and_self, implies_true, List.nil_append, List.cons_append, List.append_nil, hN]
  refine V_loop (α := Nat) ⟨tabOK, mixed, gok_laws_heldTriangleS, hok_laws_heldTriangleS⟩ (by kernel_rfl) (fun i => i ≤ l.length ∧ heldR l k = heldR (l.drop i) (k + 3 * (i : Int))) (fun i => ⟨[(5, .num .i64 i), (0, .sl 3 (encTs l)), (1, .num .i64 (k + 3 * (i : Int)))], []⟩) (fun i => l.length - i) 0 id (by simp) (by simp [SLe, SLe0, convTm, convHp, conv, conv0, lkT, lkH, clean]) ?_
  rintro i ⟨hi, hj⟩
  simp only [V_seq, V_region, V_cond, W_nil, W_cons, effOp2, KN_seq, asB, effOp, effPure, pureV, binV, lenV, strip, lkT, ISt.app, opI, gO, gB, allB, gval, wrapG, dstOK, setD, Op.operands, Call.operands, List.append_toArray, reduceIte, reduceCtorEq, Nat.reduceLT, Nat.reduceEqDiff, ne_eq, not_false_eq_true, true_and, and_self, implies_true, List.nil_append, List.cons_append, List.append_nil, tab24, hN, el]
  refine brW_some (fun h => ?_) (fun h => ?_)
  · have hi' : i < l.length := by simpa using h
    have g0 := getD_encTs hi'
    have hw := wr_succ hi' (by rw [maxLen_eq]; omega)
    rw [heldR_step hi'] at hj
    obtain ⟨K, hK⟩ : ∃ K, k + 3 * (i : Int) = K := ⟨_, rfl⟩
    rw [hK] at hj
    obtain ⟨v0, hv0⟩ : ∃ v, tAt l i = v := ⟨_, rfl⟩
    rw [hv0] at g0 hj
    have w1 : IntKind.i64.wrap (K + 1) = K + 1 := by rw [wr (by omega) (by omega)]
    have w2 : IntKind.i64.wrap (K + 1 + 1) = K + 2 := by rw [wr (by omega) (by omega)]; omega
    have w3 : IntKind.i64.wrap (K + 2 + 1) = k + 3 * ((i + 1 : Nat) : Int) := by rw [wr (by omega) (by omega)]; omega
    by_cases c0 : v0.1 = K
    · have d0 : (v0.1 != K) = false := by simpa using c0
      by_cases c1 : v0.2.1 = K + 1
      · have d1 : (v0.2.1 != K + 1) = false := by simpa using c1
        by_cases c2 : v0.2.2 = K + 2
        · have d2 : (v0.2.2 != K + 2) = false := by simpa using c2
          rw [if_pos ⟨c0, c1, c2⟩] at hj
          simp only [V_seq, V_skip, V_block, V_region, V_cond, brW_false, W_nil, W_cons, effOp2, KN_seq, KN_block, KN_back, asB, effOp, effPure, pureV, binV, partV, eltV, loadV, faddrV, iaddrV, ofC, strip, lkT, ISt.app, opI, gO, gB, allB, gval, wrapG, dstOK, setD, Op.operands, reduceIte, reduceCtorEq, Nat.reduceAdd, Nat.reduceLT, Nat.reduceLeDiff, Nat.reduceEqDiff, Nat.add_zero, Nat.zero_add, ne_eq, not_false_eq_true, true_and, and_true, and_false, and_self, implies_true, forall_const, List.nil_append, List.cons_append, List.append_nil, List.getD_cons_zero, List.getD_cons_succ, List.length_cons, List.length_nil, List.take_succ_cons, List.take_zero, List.take_nil, List.drop_succ_cons, List.drop_zero, tab3, tab24, tab32, hN, Int.toNat_natCast, hK, el, hw, g0, w1, w2, w3, d0, d1, d2]
          repeat refine And.intro (by first | omega | (simp; done) | (simp; omega)) ?_
          exact ⟨i + 1, id, ⟨by omega, by rw [hj]; congr 1; omega⟩, by simp only []; omega, by simp [SLe, SLe0, convTm, convHp, conv, conv0, lkT, lkH, clean]⟩
        · have d2 : (v0.2.2 != K + 2) = true := by simpa using c2
          rw [if_neg (fun h => c2 h.2.2)] at hj
          simp only [V_seq, V_skip, V_ret, V_block, V_region, V_cond, brW_true, brW_false, W_nil, W_cons, effOp2, KN_seq, KXr_nil, KXr_seq, KXr_block, KXr_back, QE, asB, effOp, effPure, pureV, binV, partV, eltV, loadV, faddrV, iaddrV, ofC, strip, lkT, lkH, ISt.app, opI, gO, gB, allB, gval, wrapG, dstOK, setD, clean, Gives, Ideal.Fin, conv, conv0, Op.operands, reduceIte, reduceCtorEq, Nat.reduceAdd, Nat.reduceLT, Nat.reduceLeDiff, Nat.reduceEqDiff, Nat.add_zero, Nat.zero_add, ne_eq, not_false_eq_true, true_and, and_true, and_false, and_self, implies_true, forall_const, List.nil_append, List.cons_append, List.append_nil, List.getD_cons_zero, List.getD_cons_succ, List.length_cons, List.length_nil, List.take_succ_cons, List.take_zero, List.take_nil, List.drop_succ_cons, List.drop_zero, tab3, tab24, tab32, hN, Int.toNat_natCast, hK, el, g0, w1, w2, d0, d1, d2, hj]
          repeat refine And.intro (by first | omega | (simp; done) | (simp; omega)) ?_
          omega
      · have d1 : (v0.2.1 != K + 1) = true := by simpa using c1
        rw [if_neg (fun h => c1 h.2.1)] at hj
        simp only [V_seq, V_skip, V_ret, V_block, V_region, V_cond, brW_true, brW_false, W_nil, W_cons, effOp2, KN_seq, KXr_nil, KXr_seq, KXr_block, KXr_back, QE, asB, effOp, effPure, pureV, binV, partV, eltV, loadV, faddrV, iaddrV, ofC, strip, lkT, lkH, ISt.app, opI, gO, gB, allB, gval, wrapG, dstOK, setD, clean, Gives, Ideal.Fin, conv, conv0, Op.operands, reduceIte, reduceCtorEq, Nat.reduceAdd, Nat.reduceLT, Nat.reduceLeDiff, Nat.reduceEqDiff, Nat.add_zero, Nat.zero_add, ne_eq, not_false_eq_true, true_and, and_true, and_false, and_self, implies_true, forall_const, List.nil_append, List.cons_append, List.append_nil, List.getD_cons_zero, List.getD_cons_succ, List.length_cons, List.length_nil, List.take_succ_cons, List.take_zero, List.drop_succ_cons, List.drop_zero, tab3, tab24, tab32, hN, Int.toNat_natCast, hK, el, g0, w1, d0, d1, hj]
        repeat refine And.intro (by first | omega | (simp; done) | (simp; omega)) ?_
        omega
    · have d0 : (v0.1 != K) = true := by simpa using c0
      rw [if_neg (fun h => c0 h.1)] at hj
      simp only [V_seq, V_skip, V_ret, V_block, V_region, V_cond, brW_true, W_nil, W_cons, effOp2, KN_seq, KXr_nil, KXr_seq, KXr_block, KXr_back, QE, asB, effOp, effPure, pureV, binV, partV, eltV, loadV, faddrV, iaddrV, ofC, strip, lkT, lkH, ISt.app, opI, gO, gB, allB, gval, wrapG, dstOK, setD, clean, Gives, Ideal.Fin, conv, conv0, Op.operands, reduceIte, reduceCtorEq, Nat.reduceAdd, Nat.reduceLT, Nat.reduceLeDiff, Nat.reduceEqDiff, Nat.add_zero, Nat.zero_add, ne_eq, not_false_eq_true, true_and, and_true, and_false, and_self, implies_true, forall_const, List.nil_append, List.cons_append, List.append_nil, List.getD_cons_zero, List.length_cons, List.length_nil, List.take_succ_cons, List.take_zero, List.drop_zero, tab3, tab24, tab32, hN, Int.toNat_natCast, hK, el, g0, d0, hj]
      repeat refine And.intro (by first | omega | (simp; done) | (simp; omega)) ?_
      omega
  · have hie : i = l.length := by simp at h; omega
    subst hie
    have hf : heldR l k = k + 3 * (l.length : Int) := by rw [hj]; simp [heldR]
    simp only [V_seq, V_ret, V_exit, V_region, W_nil, W_cons, effOp2, KN_seq, KXr_nil, KXe_nil, KXe_seq, KXe_block, KXe_back, QE, effOp, effPure, pureV, strip, lkT, lkH, ISt.app, opI, gO, gB, allB, gval, wrapG, dstOK, setD, clean, Gives, Ideal.Fin, conv, conv0, Op.operands, reduceIte, reduceCtorEq, Nat.reduceLT, Nat.reduceEqDiff, and_self, implies_true, List.nil_append, List.cons_append, List.append_nil, hN, hf]
def sp_laws_heldTriangleS : PSpec := ⟨fun xs => match xs with | [.sl 3 les, .num .i64 k] => isTs les ∧ ((fun (l : List Tr) (k : Int) => l.length ≤ 2000000) (toTs les) k) ∧ ((fun (l : List Tr) (k : Int) => 0 ≤ k) (toTs les) k) ∧ ((fun (l : List Tr) (k : Int) => k ≤ 2000000) (toTs les) k) | _ => False, fun xs => match xs with | [.sl _ les, .num _ k] => (fun (l : List Tr) (k : Int) => .num .i64 (heldR l k)) (toTs les) k | _ => .junk, false⟩
theorem gk_laws_heldTriangleS : ∀ args, sp_laws_heldTriangleS.pre args → ICall Try.prog 25 args (sp_laws_heldTriangleS.val args) := by
  intro args h
  unfold sp_laws_heldTriangleS at h ⊢; simp only at h ⊢; split at h
  · obtain ⟨h0, h1, h2, h3⟩ := h
    obtain ⟨l0, rfl⟩ := isT_ex h0
    simp only [toTs_enc] at *
    exact c_laws_heldTriangleS _ _ h1 h2 h3
  · exact h.elim
theorem en_laws_heldTriangleS : Enters Try.prog 25 := enters_of Try.func25 (by kernel_rfl) rfl

theorem sweepP_len {l : List Pt} (h : l.length ≤ 20) : (sweepP l).length ≤ 524288 := by
  unfold sweepP
  split
  · exact Nat.zero_le _
  · obtain ⟨f1, f2, f3, f4⟩ := fstN_facts (l := l) (by omega)
    have hb := (swp_bd (l := l) f1 (l.length - fstN l)).2.1
    have := pow_20 (n := fstN l + (l.length - fstN l)) (by omega)
    omega
def g_impl_SweepTriangles_h : List (Nat × PSpec) := [(32, sp_impl_ordered)]
theorem gok_impl_SweepTriangles_h : GOK Try.prog g_impl_SweepTriangles_h := gok_cons gk_impl_ordered en_impl_ordered (gok0)
theorem lk_impl_SweepTriangles_h_impl_ordered : lkG g_impl_SweepTriangles_h 32 = sp_impl_ordered := rfl
def h_impl_SweepTriangles_h : List (Nat × HSpec) := [(47, hs_impl_sweep)]
theorem hok_impl_SweepTriangles_h : HOK Try.prog h_impl_SweepTriangles_h := hok_cons hk_impl_sweep en_impl_sweep (hok0)
theorem lh_impl_SweepTriangles_h_impl_ordered : lkHS h_impl_SweepTriangles_h 32 = none := rfl
theorem lh_impl_SweepTriangles_h_impl_sweep : lkHS h_impl_SweepTriangles_h 47 = some hs_impl_sweep := rfl
theorem c_impl_SweepTriangles_h (l : List Pt) (hs : siteB l = true) : HCall Try.prog 17 [.sl 2 (encPs l)] (sm ([])) (.ref 0 0 (sweepP l).length false) (sm ([(0, .arr 3 32 (encTs (sweepP l)))])) := by
  refine hcall_V (G := g_impl_SweepTriangles_h) (H := h_impl_SweepTriangles_h) [] tabOK mixed gok_impl_SweepTriangles_h hok_impl_SweepTriangles_h Try.func17 rfl Try.ntmps17 Try.results17 rfl (by kernel_rfl) fun F hN hlen => ?_
  simp only [sm]
  have et := len_encTs (sweepP l)
  have tk := take_encTs (sweepP l)
  simp only [V_seq, V_skip, V_ret, V_region, V_cond, brW_false, W_nil, W_cons, effOp2, KN_seq, KXr_nil, QE, asB, effOp, effPure, effCall, giveUp, hasAll, Option.isSome_some, skipE, pureV, ofC, strip, lkT, lkH, ISt.app, opI, gO, gB, allB, gval, wrapG, dstOK, setD, mentTm, mentHp, IV.ment, lendV, lendP, lent, lentP, idsV, idsL, flat, clean, callArgs, callFn, allLent, enumT, conv, conv0, IBlk.shape, Op.operands, reduceIte, reduceCtorEq, cond_true, cond_false, Bool.or_false, Bool.and_true, Bool.not_true, Bool.not_false, Nat.reduceAdd, Nat.reduceSub, Nat.reduceMul, Nat.reduceLT, Nat.reduceLeDiff, Nat.reduceEqDiff, Nat.add_zero, not_false_eq_true, true_and, and_true, and_false, and_self, false_implies, implies_true, List.map_cons, List.map_nil, List.nil_append, List.cons_append, List.append_nil, List.all_nil, Option.map_none, ex_clo, true_or, or_self, Bool.false_eq_true, hN, isPs_enc, toPs_enc, FinH, resA, resV, SLe, SLe0, convTm, convHp, convB, sm, effH, mkHC0, mkHC1, lendM, lentM, lentI, allHere, addIds, flatIds, reach, posn, renV, renL, renB, renH, numB, subHp, fwd, bk, bwd, nones, keyOK, noSl, flatBs, List.contains, List.elem, Option.isSome_some, List.nodup_nil, List.nodup_cons, List.not_mem_nil, Option.getD_some, lk_impl_SweepTriangles_h_impl_ordered, sp_impl_ordered, lh_impl_SweepTriangles_h_impl_ordered, lh_impl_SweepTriangles_h_impl_sweep, hs_impl_sweep, hs, et, tk]
  exact ⟨fun x => if x = 0 then 2112 else x, by simp; omega⟩
def hs_impl_SweepTriangles_h : HSpec := ⟨[true], fun xs hp => match xs, hp with | [.sl 2 es], [] => (isPs es) ∧ ((fun (l : List Pt) => siteB l = true) (toPs es)) | _, _ => False, fun xs hp => match xs, hp with | [.sl 2 es], [] => (fun (l : List Pt) => (.ref 0 0 (sweepP l).length false : IV)) (toPs es) | _, _ => .junk, fun xs hp => match xs, hp with | [.sl 2 es], [] => (fun (l : List Pt) => ([(0, .arr 3 32 (encTs (sweepP l)))] : List (Nat × IBlk))) (toPs es) | _, _ => []⟩
theorem hk_impl_SweepTriangles_h : ∀ args hp, hs_impl_SweepTriangles_h.pre args hp → HCall Try.prog 17 args (sm hp) (hs_impl_SweepTriangles_h.val args hp) (sm (hs_impl_SweepTriangles_h.hval args hp)) := by
  intro args hp h
  unfold hs_impl_SweepTriangles_h at h ⊢; simp only at h ⊢; split at h
  · obtain ⟨h1, h2⟩ := h; obtain ⟨l, rfl⟩ := isP_ex h1; rw [toPs_enc] at *; exact c_impl_SweepTriangles_h l h2
  · exact h.elim
theorem en_impl_SweepTriangles_h : Enters Try.prog 17 := enters_of Try.func17 (by kernel_rfl) rfl

def g_impl_SweepTriangles_e0 : List (Nat × PSpec) := [(32, sp_impl_ordered)]
theorem gok_impl_SweepTriangles_e0 : GOK Try.prog g_impl_SweepTriangles_e0 := gok_cons gk_impl_ordered en_impl_ordered (gok0)
theorem lk_impl_SweepTriangles_e0_impl_ordered : lkG g_impl_SweepTriangles_e0 32 = sp_impl_ordered := rfl
def h_impl_SweepTriangles_e0 : List (Nat × HSpec) := [(47, hs_impl_sweep)]
theorem hok_impl_SweepTriangles_e0 : HOK Try.prog h_impl_SweepTriangles_e0 := hok_cons hk_impl_sweep en_impl_sweep (hok0)
theorem lh_impl_SweepTriangles_e0_impl_ordered : lkHS h_impl_SweepTriangles_e0 32 = none := rfl
theorem lh_impl_SweepTriangles_e0_impl_sweep : lkHS h_impl_SweepTriangles_e0 47 = some hs_impl_sweep := rfl
theorem c_impl_SweepTriangles_e0 (l : List Pt) (hk : siteB l = false) : ICall Try.prog 17 [.sl 2 (encPs l)] (.sl 3 []) := by
  refine icall_V (G := g_impl_SweepTriangles_e0) (H := h_impl_SweepTriangles_e0) [] tabOK mixed gok_impl_SweepTriangles_e0 hok_impl_SweepTriangles_e0 Try.func17 rfl Try.ntmps17 Try.results17 rfl (by kernel_rfl) fun F hN hlen => ?_
  simp only [V_seq, V_ret, V_region, V_cond, brW_true, W_nil, W_cons, effOp2, KN_seq, KXr_nil, KXr_seq, QE, asB, effOp, effPure, effCall, giveUp, hasAll, pureV, ofC, strip, lkT, lkH, ISt.app, opI, gO, gB, allB, gval, wrapG, dstOK, setD, lendV, lendP, lent, lentP, idsV, idsL, flat, clean, callArgs, callFn, allLent, enumT, Gives, Ideal.Fin, conv, conv0, Op.operands, reduceIte, reduceCtorEq, cond_true, Bool.or_false, Bool.not_true, Bool.not_false, Nat.reduceLT, Nat.reduceEqDiff, and_self, implies_true, List.map_cons, List.map_nil, List.nil_append, List.cons_append, List.append_nil, ex_clo, or_self, hN, isPs_enc, toPs_enc, lk_impl_SweepTriangles_e0_impl_ordered, sp_impl_ordered, lh_impl_SweepTriangles_e0_impl_ordered, hk]
def sp_impl_SweepTriangles_e0 : PSpec := ⟨fun xs => match xs with | [.sl 2 les] => isPs les ∧ ((fun (l : List Pt) => siteB l = false) (toPs les)) | _ => False, fun xs => match xs with | [.sl _ les] => (fun (l : List Pt) => .sl 3 []) (toPs les) | _ => .junk, false⟩
theorem gk_impl_SweepTriangles_e0 : ∀ args, sp_impl_SweepTriangles_e0.pre args → ICall Try.prog 17 args (sp_impl_SweepTriangles_e0.val args) := by
  intro args h
  unfold sp_impl_SweepTriangles_e0 at h ⊢; simp only at h ⊢; split at h
  · obtain ⟨h0, h1⟩ := h
    obtain ⟨l0, rfl⟩ := isP_ex h0
    simp only [toPs_enc] at *
    exact c_impl_SweepTriangles_e0 _ h1
  · exact h.elim
theorem en_impl_SweepTriangles_e0 : Enters Try.prog 17 := enters_of Try.func17 (by kernel_rfl) rfl

def g_impl_SweepTriangles_e : List (Nat × PSpec) := [(32, sp_impl_ordered)]
theorem gok_impl_SweepTriangles_e : GOK Try.prog g_impl_SweepTriangles_e := gok_cons gk_impl_ordered en_impl_ordered (gok0)
theorem lk_impl_SweepTriangles_e_impl_ordered : lkG g_impl_SweepTriangles_e 32 = sp_impl_ordered := rfl
def h_impl_SweepTriangles_e : List (Nat × HSpec) := [(47, hs_impl_sweep)]
theorem hok_impl_SweepTriangles_e : HOK Try.prog h_impl_SweepTriangles_e := hok_cons hk_impl_sweep en_impl_sweep (hok0)
theorem lh_impl_SweepTriangles_e_impl_ordered : lkHS h_impl_SweepTriangles_e 32 = none := rfl
theorem lh_impl_SweepTriangles_e_impl_sweep : lkHS h_impl_SweepTriangles_e 47 = some hs_impl_sweep := rfl
theorem c_impl_SweepTriangles_e (l : List Pt) (hk : siteB l = false) : ICallF Try.prog 17 [.sl 2 (encPs l)] (.sl 3 []) := by
  exact icallF_nil (c_impl_SweepTriangles_e0 l hk)
def sp_impl_SweepTriangles_e : PSpec := ⟨fun xs => match xs with | [.sl 2 les] => isPs les ∧ ((fun (l : List Pt) => siteB l = false) (toPs les)) | _ => False, fun xs => match xs with | [.sl _ les] => (fun (l : List Pt) => .sl 3 []) (toPs les) | _ => .junk, true⟩
theorem gk_impl_SweepTriangles_e : ∀ args, sp_impl_SweepTriangles_e.pre args → ICallF Try.prog 17 args (sp_impl_SweepTriangles_e.val args) ∧ ∀ id, (sp_impl_SweepTriangles_e.val args).ment id = false := by
  intro args h
  unfold sp_impl_SweepTriangles_e at h ⊢; simp only at h ⊢; split at h
  · obtain ⟨h0, h1⟩ := h
    obtain ⟨l0, rfl⟩ := isP_ex h0
    simp only [toPs_enc] at *
    exact ⟨c_impl_SweepTriangles_e _ h1, fun id => rfl⟩
  · exact h.elim
theorem en_impl_SweepTriangles_e : Enters Try.prog 17 := enters_of Try.func17 (by kernel_rfl) rfl

/-- What the sweep answers. -/
def swV (l : List Pt) : List Tr := if siteB l then sweepP l else []
def g_spec_SweepTriangles : List (Nat × PSpec) := [(49, sp_spec_validSites), (50, sp_spec_sweep)]
theorem gok_spec_SweepTriangles : GOK Try.prog g_spec_SweepTriangles := gok_cons gk_spec_validSites en_spec_validSites (gok_cons gk_spec_sweep en_spec_sweep (gok0))
theorem lk_spec_SweepTriangles_spec_validSites : lkG g_spec_SweepTriangles 49 = sp_spec_validSites := rfl
theorem lk_spec_SweepTriangles_spec_sweep : lkG g_spec_SweepTriangles 50 = sp_spec_sweep := rfl
def h_spec_SweepTriangles : List (Nat × HSpec) := []
theorem hok_spec_SweepTriangles : HOK Try.prog h_spec_SweepTriangles := hok0
theorem c_spec_SweepTriangles (l : List Pt)  : ICall Try.prog 27 [.sl 2 (encPs l)] (.sl 3 (encTs (swV l))) := by
  refine icall_V (G := g_spec_SweepTriangles) (H := []) [] tabOK mixed gok_spec_SweepTriangles hok_spec_SweepTriangles Try.func27 rfl Try.ntmps27 Try.results27 rfl (by kernel_rfl) fun F hN hlen => ?_
  cases hk : siteB l with
  | false =>
    have e : swV l = [] := by rw [swV, hk]; rfl
    have e0n : encTs [] = [] := rfl
    simp only [V_seq, V_ret, V_region, V_cond, brW_true, W_nil, W_cons, effOp2, KN_seq, KXr_nil, KXr_seq, QE, asB, effOp, effPure, effCall, giveUp, hasAll, pureV, ofC, strip, lkT, lkH, ISt.app, opI, gO, gB, allB, gval, wrapG, dstOK, setD, lendV, lendP, lent, lentP, idsV, idsL, lkHS, flat, clean, callArgs, callFn, allLent, enumT, Gives, Ideal.Fin, conv, conv0, Op.operands, reduceIte, reduceCtorEq, cond_true, Bool.or_false, Bool.not_true, Bool.not_false, Nat.reduceLT, Nat.reduceEqDiff, and_self, implies_true, List.map_cons, List.map_nil, List.nil_append, List.cons_append, List.append_nil, ex_clo, or_self, hN, isPs_enc, toPs_enc, lk_spec_SweepTriangles_spec_validSites, sp_spec_validSites, hk, e, e0n]
  | true =>
    have e : swV l = sweepP l := by rw [swV, hk]; rfl
    simp only [V_seq, V_skip, V_ret, V_region, V_cond, brW_false, W_nil, W_cons, effOp2, KN_seq, KXr_nil, QE, asB, effOp, effPure, effCall, giveUp, hasAll, pureV, ofC, strip, lkT, lkH, ISt.app, opI, gO, gB, allB, gval, wrapG, dstOK, setD, lendV, lendP, lent, lentP, idsV, idsL, lkHS, flat, clean, callArgs, callFn, allLent, enumT, Gives, Ideal.Fin, conv, conv0, Op.operands, reduceIte, reduceCtorEq, cond_true, cond_false, Bool.or_false, Bool.not_true, Nat.reduceLT, Nat.reduceEqDiff, and_self, implies_true, List.map_cons, List.map_nil, List.nil_append, List.cons_append, List.append_nil, ex_clo, or_true, or_self, Bool.false_eq_true, hN, isPs_enc, toPs_enc, lk_spec_SweepTriangles_spec_validSites, lk_spec_SweepTriangles_spec_sweep, sp_spec_validSites, sp_spec_sweep, hk, e]
def sp_spec_SweepTriangles : PSpec := ⟨fun xs => match xs with | [.sl 2 les] => isPs les | _ => False, fun xs => match xs with | [.sl _ les] => (fun (l : List Pt) => .sl 3 (encTs (swV l))) (toPs les) | _ => .junk, false⟩
theorem gk_spec_SweepTriangles : ∀ args, sp_spec_SweepTriangles.pre args → ICall Try.prog 27 args (sp_spec_SweepTriangles.val args) := by
  intro args h
  unfold sp_spec_SweepTriangles at h ⊢; simp only at h ⊢; split at h
  · have h0 := h
    obtain ⟨l0, rfl⟩ := isP_ex h0
    simp only [toPs_enc] at *
    exact c_spec_SweepTriangles _ 
  · exact h.elim
theorem en_spec_SweepTriangles : Enters Try.prog 27 := enters_of Try.func27 (by kernel_rfl) rfl

def g_e_exsw_a : List (Nat × PSpec) := [(19, sp_laws_szPointS), (27, sp_spec_SweepTriangles), (17, sp_impl_SweepTriangles_e), (22, sp_laws_eqPointS), (21, sp_laws_eqTriangleS), (25, sp_laws_heldTriangleS)]
theorem gok_e_exsw_a : GOK Try.prog g_e_exsw_a := gok_cons gk_laws_szPointS en_laws_szPointS (gok_cons gk_spec_SweepTriangles en_spec_SweepTriangles (gok_consO gk_impl_SweepTriangles_e en_impl_SweepTriangles_e (gok_cons gk_laws_eqPointS en_laws_eqPointS (gok_cons gk_laws_eqTriangleS en_laws_eqTriangleS (gok_cons gk_laws_heldTriangleS en_laws_heldTriangleS (gok0))))))
theorem lk_e_exsw_a_laws_szPointS : lkG g_e_exsw_a 19 = sp_laws_szPointS := rfl
theorem lk_e_exsw_a_spec_SweepTriangles : lkG g_e_exsw_a 27 = sp_spec_SweepTriangles := rfl
theorem lk_e_exsw_a_impl_SweepTriangles_e : lkG g_e_exsw_a 17 = sp_impl_SweepTriangles_e := rfl
theorem lk_e_exsw_a_laws_eqPointS : lkG g_e_exsw_a 22 = sp_laws_eqPointS := rfl
theorem lk_e_exsw_a_laws_eqTriangleS : lkG g_e_exsw_a 21 = sp_laws_eqTriangleS := rfl
theorem lk_e_exsw_a_laws_heldTriangleS : lkG g_e_exsw_a 25 = sp_laws_heldTriangleS := rfl
def h_e_exsw_a : List (Nat × HSpec) := [(20, hs_laws_toPointS), (23, hs_laws_markPointS), (24, hs_laws_markTriangleS_or)]
theorem hok_e_exsw_a : HOK Try.prog h_e_exsw_a := hok_cons hk_laws_toPointS en_laws_toPointS (hok_cons hk_laws_markPointS en_laws_markPointS (hok_cons hk_laws_markTriangleS_or en_laws_markTriangleS_or (hok0)))
theorem lh_e_exsw_a_laws_szPointS : lkHS h_e_exsw_a 19 = none := rfl
theorem lh_e_exsw_a_spec_SweepTriangles : lkHS h_e_exsw_a 27 = none := rfl
theorem lh_e_exsw_a_impl_SweepTriangles_e : lkHS h_e_exsw_a 17 = none := rfl
theorem lh_e_exsw_a_laws_eqPointS : lkHS h_e_exsw_a 22 = none := rfl
theorem lh_e_exsw_a_laws_eqTriangleS : lkHS h_e_exsw_a 21 = none := rfl
theorem lh_e_exsw_a_laws_heldTriangleS : lkHS h_e_exsw_a 25 = none := rfl
theorem lh_e_exsw_a_laws_toPointS : lkHS h_e_exsw_a 20 = some hs_laws_toPointS := rfl
theorem lh_e_exsw_a_laws_markPointS : lkHS h_e_exsw_a 23 = some hs_laws_markPointS := rfl
theorem lh_e_exsw_a_laws_markTriangleS_or : lkHS h_e_exsw_a 24 = some hs_laws_markTriangleS_or := rfl
def g_e_exsw_b : List (Nat × PSpec) := [(19, sp_laws_szPointS), (27, sp_spec_SweepTriangles), (22, sp_laws_eqPointS), (21, sp_laws_eqTriangleS), (25, sp_laws_heldTriangleS)]
theorem gok_e_exsw_b : GOK Try.prog g_e_exsw_b := gok_cons gk_laws_szPointS en_laws_szPointS (gok_cons gk_spec_SweepTriangles en_spec_SweepTriangles (gok_cons gk_laws_eqPointS en_laws_eqPointS (gok_cons gk_laws_eqTriangleS en_laws_eqTriangleS (gok_cons gk_laws_heldTriangleS en_laws_heldTriangleS (gok0)))))
theorem lk_e_exsw_b_laws_szPointS : lkG g_e_exsw_b 19 = sp_laws_szPointS := rfl
theorem lk_e_exsw_b_spec_SweepTriangles : lkG g_e_exsw_b 27 = sp_spec_SweepTriangles := rfl
theorem lk_e_exsw_b_laws_eqPointS : lkG g_e_exsw_b 22 = sp_laws_eqPointS := rfl
theorem lk_e_exsw_b_laws_eqTriangleS : lkG g_e_exsw_b 21 = sp_laws_eqTriangleS := rfl
theorem lk_e_exsw_b_laws_heldTriangleS : lkG g_e_exsw_b 25 = sp_laws_heldTriangleS := rfl
def h_e_exsw_b : List (Nat × HSpec) := [(20, hs_laws_toPointS), (17, hs_impl_SweepTriangles_h), (23, hs_laws_markPointS), (24, hs_laws_markTriangleS)]
theorem hok_e_exsw_b : HOK Try.prog h_e_exsw_b := hok_cons hk_laws_toPointS en_laws_toPointS (hok_cons hk_impl_SweepTriangles_h en_impl_SweepTriangles_h (hok_cons hk_laws_markPointS en_laws_markPointS (hok_cons hk_laws_markTriangleS en_laws_markTriangleS (hok0))))
theorem lh_e_exsw_b_laws_szPointS : lkHS h_e_exsw_b 19 = none := rfl
theorem lh_e_exsw_b_spec_SweepTriangles : lkHS h_e_exsw_b 27 = none := rfl
theorem lh_e_exsw_b_laws_eqPointS : lkHS h_e_exsw_b 22 = none := rfl
theorem lh_e_exsw_b_laws_eqTriangleS : lkHS h_e_exsw_b 21 = none := rfl
theorem lh_e_exsw_b_laws_heldTriangleS : lkHS h_e_exsw_b 25 = none := rfl
theorem lh_e_exsw_b_laws_toPointS : lkHS h_e_exsw_b 20 = some hs_laws_toPointS := rfl
theorem lh_e_exsw_b_impl_SweepTriangles_h : lkHS h_e_exsw_b 17 = some hs_impl_SweepTriangles_h := rfl
theorem lh_e_exsw_b_laws_markPointS : lkHS h_e_exsw_b 23 = some hs_laws_markPointS := rfl
theorem lh_e_exsw_b_laws_markTriangleS : lkHS h_e_exsw_b 24 = some hs_laws_markTriangleS := rfl
end Go.Proofs.Ytbbmeabfmjkldaa
