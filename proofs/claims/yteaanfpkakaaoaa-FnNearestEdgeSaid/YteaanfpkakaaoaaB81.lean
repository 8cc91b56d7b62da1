/- Flips: the reference. -/
import Derived.Test.YteaanfpkakaaoaaBI
import Derived.Test.YteaanfpkakaaoaaBY
import Derived.Test.YteaanfpkakaaoaaPl31
set_option linter.unusedVariables false
set_option linter.unusedSimpArgs false
set_option maxHeartbeats 16000000
set_option maxRecDepth 100000
namespace Go.Proofs.Yteaanfpkakaaoaa
open Go Go.Ideal Go.Pl Go.Sort

def g_spec_rotated : List (Nat × PSpec) := []
theorem gok_spec_rotated : GOK Try.prog g_spec_rotated := gok0
def h_spec_rotated : List (Nat × HSpec) := []
theorem hok_spec_rotated : HOK Try.prog h_spec_rotated := hok0
theorem c_spec_rotated (t : Tr) (k : Int) (h : 0 ≤ k ∧ k ≤ 100) : ICall Try.prog 57 [encT t, .num .i64 k] (encT (rotT t k.toNat)) := by
  refine icall_of_hcall (v := encT (rotT t k.toNat)) (hp' := []) id ?_ (by simp [SLe0, convTm, convHp, conv, convL, conv0, lkT, clean, encT]) (by simp [idsV, idsL, encT])
  refine hcall_V (G := g_spec_rotated) (H := []) [] tabOK mixed gok_spec_rotated hok_spec_rotated Try.func57 rfl Try.ntmps57 Try.results57 rfl (by kernel_rfl) fun F hN hlen => ?_
  obtain ⟨n, rfl⟩ := Int.eq_ofNat_of_zero_le h.1
  have tn : Int.toNat (n : Int) = n := Int.toNat_natCast n
  simp only [tn]
  simp only [V_seq, V_block, V_region, W_nil, W_cons, effOp2, KN_seq, effOp, effPure, effNew, effAlloc, effBox, skipE, pureV, solid, IV.cells, ofC, strip, lkT, ISt.app, opI, gO, gB, allB, gval, wrapG, dstOK, setD, mentTm, mentHp, IV.ment, IV.mentL, oneI, enumT, Op.operands, reduceIte, reduceCtorEq, cond_true, Bool.or_false, Bool.and_true, Nat.reduceLT, Nat.reduceBEq, Nat.zero_add, true_and, and_self, implies_true, List.nil_append, List.cons_append, List.append_nil, List.all_cons, List.all_nil, tab31, hN, encT]
  refine V_loop (α := Nat) ⟨tabOK, mixed, gok_spec_rotated, hok_spec_rotated⟩ (by kernel_rfl) (fun i => i ≤ n) (fun i => ⟨[(5, .num .i64 i), (1, .num .i64 n), (2, .ptr 2 0), (4, .ptr 4 0)], [(2, some (.box 31 [.num .i64 (rotT t i).1, .num .i64 (rotT t i).2.1, .num .i64 (rotT t i).2.2])), (4, some (.box 31 [.num .i64 0, .num .i64 0, .num .i64 0]))]⟩) (fun i => n - i) 0 id (Nat.zero_le _) (by simp [SLe, SLe0, convTm, convHp, convB, conv, conv0, convL, lkT, lkH, clean, rotT]) ?_
  intro i hi
  simp only [V_seq, V_region, V_cond, W_nil, W_cons, effOp2, KN_seq, asB, effOp, effPure, pureV, binV, strip, lkT, ISt.app, opI, gO, gB, allB, gval, wrapG, dstOK, setD, Op.operands, reduceIte, Nat.reduceLT, Nat.reduceEqDiff, true_and, and_self, implies_true, List.nil_append, List.cons_append, hN]
  refine brW_some (fun h => ?_) (fun h => ?_)
  · have hi' : i < n := by simpa using h
    have hw := wr_succ hi' (by rw [maxLen_eq]; omega)
    have hst : rotT t (i + 1) = ((rotT t i).2.1, (rotT t i).2.2, (rotT t i).1) := rfl
    simp only [V_seq, V_skip, V_block, V_region, W_nil, W_cons, effOp2, KN_seq, KN_block, KN_back, effOp, effPure, effStore, pureV, storeV, binV, partV, loadV, faddrV, over, solid, buildL, IV.cells, ofC, strip, lkT, lkH, ISt.app, opI, gO, gB, allB, gval, wrapG, dstOK, setD, oneI, IBlk.shape, Op.operands, reduceIte, reduceCtorEq, cond_true, Bool.and_true, Nat.reduceAdd, Nat.reduceLT, Nat.reduceLeDiff, Nat.reduceEqDiff, Nat.add_zero, Nat.zero_add, ne_eq, not_false_eq_true, true_and, and_true, false_and, and_false, and_self, implies_true, List.map_cons, List.map_nil, List.nil_append, List.cons_append, List.append_nil, List.all_cons, List.all_nil, Option.map_some, List.getD_cons_zero, List.getD_cons_succ, List.length_cons, List.length_nil, List.take_succ_cons, List.take_zero, List.take_nil, List.drop_succ_cons, List.drop_zero, List.drop_nil, tab3, tab31, hN, hw]
    refine ⟨i + 1, id, by simp only []; omega, by simp only []; omega, ?_⟩
    simp only [hst]
    exact by simp [SLe, SLe0, convTm, convHp, convB, conv, conv0, convL, lkT, lkH, clean]
  · have hie : i = n := by simp at h; omega
    subst hie
    simp only [V_seq, V_ret, V_exit, V_region, W_nil, W_cons, effOp2, KN_seq, KXr_nil, KXe_nil, KXe_seq, KXe_block, KXe_back, QE, effOp, effPure, effStore, pureV, storeV, partV, loadV, over, solid, IV.cells, strip, lkT, lkH, ISt.app, opI, gO, gB, allB, gval, wrapG, dstOK, setD, oneI, clean, conv, conv0, convL, Op.operands, reduceIte, cond_true, Bool.and_true, Nat.reduceAdd, Nat.reduceLT, Nat.reduceLeDiff, Nat.reduceEqDiff, Nat.zero_add, true_and, and_false, and_self, implies_true, List.map_nil, List.nil_append, List.cons_append, List.append_nil, List.all_cons, List.all_nil, List.getD_cons_zero, List.length_cons, List.length_nil, List.take_succ_cons, List.take_zero, List.take_nil, List.drop_succ_cons, List.drop_zero, List.drop_nil, tab31, hN, FinH, resA, resV, SLe, SLe0, convTm, convHp]
    exact ⟨id, by simp⟩
def sp_spec_rotated : PSpec := ⟨fun xs => match xs with | [.agg [.num .i64 t1, .num .i64 t2, .num .i64 t3], .num .i64 k] => ((fun (t : Tr) (k : Int) => 0 ≤ k ∧ k ≤ 100) (t1, t2, t3) k) | _ => False, fun xs => match xs with | [.agg [.num _ t1, .num _ t2, .num _ t3], .num _ k] => (fun (t : Tr) (k : Int) => encT (rotT t k.toNat)) (t1, t2, t3) k | _ => .junk, false⟩
theorem gk_spec_rotated : ∀ args, sp_spec_rotated.pre args → ICall Try.prog 57 args (sp_spec_rotated.val args) := by
  intro args h
  unfold sp_spec_rotated at h ⊢; simp only at h ⊢; split at h
  · have h0 := h
    simp only [toPs_enc] at *
    exact c_spec_rotated (_, _, _) _ h0
  · exact h.elim
theorem en_spec_rotated : Enters Try.prog 57 := enters_of Try.func57 (by kernel_rfl) rfl

theorem firstN_hitD {β : Type} {f : Nat → Option β} {m : Nat} {b : β} (h : firstN f m = none) (hb : f m = some b) : ∀ {n : Nat}, m < n → firstN f n = some b
  | n + 1, hn => by
    rw [firstN]
    rcases Nat.lt_or_ge m n with c | c
    · rw [firstN_hitD h hb c]
    · rw [show n = m by omega, h]; exact hb
theorem firstN_next {β : Type} {f : Nat → Option β} {m : Nat} (h : firstN f m = none) (hb : f m = none) : firstN f (m + 1) = none := by
  rw [firstN, h]; exact hb
theorem flip_hit {p : List Pt} {L : List Tr} {i k m n : Nat} (hi : i < L.length) (h1 : firstN (flip4 p L) i = none) (hk : k < 3) (h2 : firstN (flip3 p L i) k = none) (hm : m < L.length) (h3 : firstN (flip2 p L i k) m = none) (hn : n < 3) (h4 : firstN (flip1 p L i k m) n = none) {b : List Tr} (hb : flip1 p L i k m n = some b) : flipF p L = some b := by
  have e1 : flip2 p L i k m = some b := firstN_hitD h4 hb hn
  have e2 : flip3 p L i k = some b := firstN_hitD h3 e1 hm
  have e3 : flip4 p L i = some b := firstN_hitD h2 e2 hk
  exact firstN_hitD h1 e3 hi
theorem sgn_posD (x : Int) : decide (0 < sgnI x) = decide (0 < x) := by
  rw [Bool.eq_iff_iff, decide_eq_true_iff, decide_eq_true_iff]
  unfold sgnI; split <;> (try split) <;> omega
theorem good_vp {p : List Pt} (hk : okPs p = true) {t : Tr} (h : goodT p.length p t) : (∃ a b c : Nat, t = ((a : Int), (b : Int), (c : Int)) ∧ a < p.length ∧ b < p.length ∧ c < p.length) := by
  obtain ⟨h1, h2, h3, _⟩ := h
  exact ⟨t.1.toNat, t.2.1.toNat, t.2.2.toNat, Prod.ext (by simp only []; omega) (Prod.ext (by simp only []; omega) (by simp only []; omega)), by omega, by omega, by omega⟩
def g_spec_flip : List (Nat × PSpec) := [(57, sp_spec_rotated), (58, sp_spec_inCircle)]
theorem gok_spec_flip : GOK Try.prog g_spec_flip := gok_cons gk_spec_rotated en_spec_rotated (gok_cons gk_spec_inCircle en_spec_inCircle (gok0))
theorem lk_spec_flip_spec_rotated : lkG g_spec_flip 57 = sp_spec_rotated := rfl
theorem lk_spec_flip_spec_inCircle : lkG g_spec_flip 58 = sp_spec_inCircle := rfl
def h_spec_flip : List (Nat × HSpec) := []
theorem hok_spec_flip : HOK Try.prog h_spec_flip := hok0
theorem c_spec_flip (p : List Pt) (L : List Tr) (full : Bool) (hk : okPs p = true) (hg : goodL p L) (hz : L.length ≤ 1000000) : HCall Try.prog 27 [.sl 2 (encPs p), .ref 1000 0 L.length full] (sm ([(1000, .arr 3 31 (encTs L))])) (.bool (flipF p L).isSome) (sm ([(1000, .arr 3 31 (encTs ((flipF p L).getD L)))])) := by
  refine hcall_V (G := g_spec_flip) (H := []) [(15, [(0, 33), (1, 33), (2, 33), (3, 33), (4, 33), (5, 33), (6, 33), (7, 33), (8, 33), (9, 33), (10, 33), (11, 33), (13, 33), (14, 33), (15, 33), (16, 33), (18, 33), (19, 33), (20, 33), (21, 33), (23, 33), (24, 33), (25, 33), (26, 33), (28, 33), (29, 33), (30, 33), (31, 33), (33, 35)])] tabOK mixed gok_spec_flip hok_spec_flip Try.func27 rfl Try.ntmps27 Try.results27 rfl (by kernel_rfl) fun F hN hlen => ?_
  simp only [sm]
  have el := len_encTs L
  have ep := len_encPs p
  have hx : ∃ k ty es, IBlk.arr 3 31 (encTs L) = IBlk.arr k ty es := ⟨_, _, _, rfl⟩
  simp only [V_seq, V_block, V_region, W_nil, W_cons, effOp2, KN_seq, effOp, effPure, pureV, ofC, strip, ISt.app, opI, gO, gB, allB, gval, wrapG, dstOK, setD, enumT, Op.operands, Nat.reduceLT, Nat.zero_add, true_and, and_self, implies_true, List.nil_append, List.cons_append, hN]
  refine V_loop (α := Nat) ⟨tabOK, mixed, gok_spec_flip, hok_spec_flip⟩ (by kernel_rfl) (fun i => i ≤ L.length ∧ firstN (flip4 p L) i = none) (fun i => ⟨[(5, .num .i64 i), (0, .sl 2 (encPs p)), (1, .ref 1000 0 L.length full)], [(1000, some (.arr 3 31 (encTs L)))]⟩) (fun i => L.length - i) 0 id ⟨Nat.zero_le _, rfl⟩ (by simp [SLe, SLe0, convTm, convHp, convB, conv, conv0, lkT, lkH, clean]) ?_
  rintro i ⟨hi, n1⟩
  simp only [V_seq, V_region, V_cond, W_nil, W_cons, effOp2, KN_seq, asB, effOp, effPure, pureV, binV, lenV, strip, lkT, ISt.app, opI, gO, gB, allB, gval, wrapG, dstOK, setD, Op.operands, Call.operands, List.append_toArray, reduceIte, reduceCtorEq, Nat.reduceLT, Nat.reduceEqDiff, ne_eq, not_false_eq_true, true_and, and_self, implies_true, List.nil_append, List.cons_append, tab25, hN]
  refine brW_some (fun h => ?_) (fun h => ?_)
  · have hi' : i < L.length := by simpa using h
    have hwi := wr_succ hi' (by rw [maxLen_eq]; omega)
    have g1 := getD_encTs hi'
    have gti := hg (t3 L i) (t3_mem hi')
    simp only [V_seq, V_skip, V_block, V_region, W_nil, W_cons, effOp2, KN_seq, effOp, effPure, pureV, ofC, strip, ISt.app, opI, gO, gB, allB, gval, wrapG, dstOK, setD, Op.operands, Nat.reduceLT, true_and, and_self, implies_true, List.nil_append, List.cons_append, hN]
    refine V_loop (α := Nat) ⟨tabOK, mixed, gok_spec_flip, hok_spec_flip⟩ (by kernel_rfl) (fun k => k ≤ 3 ∧ firstN (flip3 p L i) k = none) (fun k => ⟨[(6, .num .i64 k), (5, .num .i64 i), (0, .sl 2 (encPs p)), (1, .ref 1000 0 L.length full)], [(1000, some (.arr 3 31 (encTs L)))]⟩) (fun k => 3 - k) 0 id ⟨by omega, rfl⟩ (by simp [SLe, SLe0, convTm, convHp, convB, conv, conv0, lkT, lkH, clean]) ?_
    rintro k ⟨hk3, n2⟩
    simp only [V_seq, V_region, V_cond, W_nil, W_cons, effOp2, KN_seq, asB, effOp, effPure, pureV, binV, ofC, strip, lkT, ISt.app, opI, gO, gB, allB, gval, wrapG, dstOK, setD, Op.operands, reduceIte, reduceCtorEq, Nat.reduceLT, Nat.reduceEqDiff, true_and, and_self, implies_true, List.nil_append, List.cons_append, hN]
    refine brW_some (fun h => ?_) (fun h => ?_)
    · have hk' : k < 3 := by have := of_decide_eq_true h; omega
      have hwk : IntKind.i64.wrap (((k : Nat) : Int) + 1) = ((k + 1 : Nat) : Int) := by rw [wr (by omega) (by omega)]; omega
      have gt := good_rot gti k
      obtain ⟨a, b, c, ht, ha, hb, hc⟩ := good_vp hk gt
      have k0 : (0 : Int) ≤ (k : Int) := by omega
      have k1 : (k : Int) ≤ 100 := by omega
      have tk : Int.toNat (k : Int) = k := Int.toNat_natCast k
      have ht2 : rotT (tAt L i) k = ((a : Int), (b : Int), (c : Int)) := ht
      simp only [V_seq, V_skip, V_block, V_region, W_nil, W_cons, effOp2, KN_seq, effOp, effPure, effNew, effAlloc, effStore, effCall, giveUp, hasAll, skipE, pureV, storeV, partV, eltV, loadV, iaddrV, over, solid, IV.cells, ofC, strip, lkT, lkH, ISt.app, opI, gO, gB, allB, gval, wrapG, dstOK, setD, mentTm, mentHp, IV.ment, IV.mentL, oneI, lendV, lendP, lent, lentP, idsV, idsL, lkHS, flat, flatL, clean, cleanL, callArgs, callFn, allLent, Op.operands, reduceIte, reduceCtorEq, cond_true, Bool.or_false, Bool.and_true, Bool.not_true, Nat.reduceAdd, Nat.reduceLT, Nat.reduceLeDiff, Nat.reduceEqDiff, Nat.reduceBEq, Nat.zero_add, ne_eq, not_false_eq_true, true_and, and_true, and_false, and_self, implies_true, forall_const, List.map_cons, List.map_nil, List.nil_append, List.cons_append, List.append_nil, List.all_cons, List.all_nil, List.getD_cons_zero, List.length_cons, List.length_nil, List.take_succ_cons, List.take_zero, List.take_nil, List.drop_succ_cons, List.drop_zero, List.drop_nil, ex_clo, or_self, tab25, tab31, hN, pe, Int.toNat_natCast, encT, lk_spec_flip_spec_rotated, sp_spec_rotated, el, g1, k0, k1, tk, ht2, Int.toNat_natCast]
      refine ⟨⟨by omega, by omega⟩, by omega, ?_⟩
      refine V_loop (α := Nat) ⟨tabOK, mixed, gok_spec_flip, hok_spec_flip⟩ (by kernel_rfl) (fun m => m ≤ L.length ∧ firstN (flip2 p L i k) m = none) (fun m => ⟨[(8, .num .i64 m), (7, .ptr 7 0), (6, .num .i64 k), (5, .num .i64 i), (0, .sl 2 (encPs p)), (1, .ref 1000 0 L.length full)], [(7, some (.box 31 [.num .i64 a, .num .i64 b, .num .i64 c])), (1000, some (.arr 3 31 (encTs L)))]⟩) (fun m => L.length - m) 0 id ⟨Nat.zero_le _, rfl⟩ (by simp [SLe, SLe0, convTm, convHp, convB, conv, conv0, convL, lkT, lkH, clean]) ?_
      rintro m ⟨hm, n3⟩
      simp only [V_seq, V_region, V_cond, W_nil, W_cons, effOp2, KN_seq, asB, effOp, effPure, pureV, binV, lenV, strip, lkT, ISt.app, opI, gO, gB, allB, gval, wrapG, dstOK, setD, Op.operands, Call.operands, List.append_toArray, reduceIte, reduceCtorEq, Nat.reduceLT, Nat.reduceEqDiff, ne_eq, not_false_eq_true, true_and, and_self, implies_true, List.nil_append, List.cons_append, tab25, hN]
      refine brW_some (fun h => ?_) (fun h => ?_)
      · have hm' : m < L.length := by simpa using h
        have hwm := wr_succ hm' (by rw [maxLen_eq]; omega)
        have g2 := getD_encTs hm'
        have gtm := hg (t3 L m) (t3_mem hm')
        simp only [V_seq, V_skip, V_block, V_region, W_nil, W_cons, effOp2, KN_seq, effOp, effPure, pureV, ofC, strip, ISt.app, opI, gO, gB, allB, gval, wrapG, dstOK, setD, Op.operands, Nat.reduceLT, true_and, and_self, implies_true, List.nil_append, List.cons_append, hN]
        refine V_loop (α := Nat) ⟨tabOK, mixed, gok_spec_flip, hok_spec_flip⟩ (by kernel_rfl) (fun n => n ≤ 3 ∧ firstN (flip1 p L i k m) n = none) (fun n => ⟨[(9, .num .i64 n), (8, .num .i64 m), (7, .ptr 7 0), (6, .num .i64 k), (5, .num .i64 i), (0, .sl 2 (encPs p)), (1, .ref 1000 0 L.length full)], [(7, some (.box 31 [.num .i64 a, .num .i64 b, .num .i64 c])), (1000, some (.arr 3 31 (encTs L)))]⟩) (fun n => 3 - n) 0 id ⟨by omega, rfl⟩ (by simp [SLe, SLe0, convTm, convHp, convB, conv, conv0, convL, lkT, lkH, clean]) ?_
        rintro n ⟨hn3, n4⟩
        simp only [V_seq, V_region, V_cond, W_nil, W_cons, effOp2, KN_seq, asB, effOp, effPure, pureV, binV, ofC, strip, lkT, ISt.app, opI, gO, gB, allB, gval, wrapG, dstOK, setD, Op.operands, reduceIte, reduceCtorEq, Nat.reduceLT, Nat.reduceEqDiff, true_and, and_self, implies_true, List.nil_append, List.cons_append, hN]
        refine brW_some (fun h => ?_) (fun h => ?_)
        · have hn' : n < 3 := by have := of_decide_eq_true h; omega
          have hwn : IntKind.i64.wrap (((n : Nat) : Int) + 1) = ((n + 1 : Nat) : Int) := by rw [wr (by omega) (by omega)]; omega
          have gu := good_rot gtm n
          obtain ⟨x, y, z, hu, hxl, hyl, hzl⟩ := good_vp hk gu
          have n0 : (0 : Int) ≤ (n : Int) := by omega
          have n5 : (n : Int) ≤ 100 := by omega
          have tn : Int.toNat (n : Int) = n := Int.toNat_natCast n
          have hu2 : rotT (tAt L m) n = ((x : Int), (y : Int), (z : Int)) := hu
          have pa := getD_encPs ha
          have pb := getD_encPs hb
          have pc := getD_encPs hc
          have pz := getD_encPs hzl
          have va := okPs_vp hk ha
          have vb := okPs_vp hk hb
          have vc := okPs_vp hk hc
          have vz := okPs_vp hk hzl
          have hfl : flipB p (rotT (t3 L i) k) (rotT (t3 L m) n) = (((x : Int) == (b : Int) && (y : Int) == (a : Int)) && decide (0 < inC (pAt p a) (pAt p b) (pAt p c) (pAt p z))) := by
            rw [ht, hu]; rfl
          have hf1 : flip1 p L i k m n = if flipB p (rotT (t3 L i) k) (rotT (t3 L m) n) then some (flipL L i m ((a : Int), (b : Int), (c : Int)) ((x : Int), (y : Int), (z : Int))) else none := by rw [← ht, ← hu]; rfl
          have hsg := sgn_posD (inC (pAt p a) (pAt p b) (pAt p c) (pAt p z))
          cases c1 : ((x : Int) == (b : Int)) with
          | false =>
            rw [c1] at hfl
            rw [hfl] at hf1
            simp only [V_seq, V_skip, V_block, V_region, V_draw, V_cond, brW_false, drawW, WS_nil, pairsOf, W_nil, W_cons, effOp2, effOp3, WI_nil, WI_cons, KN_seq, KN_block, KN_back, dynOK, indB, farB, freshB, freshK, freshK1, heapy, asB, effOp, effPure, effPick, effNew, effAlloc, effStore, effCall, giveUp, hasAll, skipE, pureV, pickV, storeV, binV, partV, eltV, loadV, faddrV, iaddrV, over, solid, IV.cells, ofC, strip, lkT, lkH, ISt.app, opI, gO, gB, allB, gval, wrapG, dstOK, setD, mentTm, mentHp, IV.ment, IV.mentL, oneI, lendV, lendP, lent, lentP, idsV, idsL, lkHS, flat, flatL, clean, cleanL, callArgs, callFn, allLent, IBlk.shape, Op.operands, Call.operands, List.append_toArray, reduceIte, reduceCtorEq, cond_true, cond_false, Bool.or_false, Bool.or_true, Bool.and_true, Bool.and_eq_true, Bool.not_true, Bool.not_false, Nat.reduceAdd, Nat.reduceLT, Nat.reduceLeDiff, Nat.reduceEqDiff, Nat.reduceBEq, Nat.add_zero, Nat.zero_add, ne_eq, not_false_eq_true, true_and, and_true, false_and, and_false, and_self, false_implies, implies_true, forall_const, List.map_cons, List.map_nil, List.nil_append, List.cons_append, List.append_nil, List.all_cons, List.all_nil, Option.map_some, Option.bind_some, List.getElem?_cons_zero, List.getElem?_cons_succ, List.getD_cons_zero, List.getD_cons_succ, List.length_cons, List.length_nil, List.take_succ_cons, List.take_zero, List.take_nil, List.drop_succ_cons, List.drop_zero, List.drop_nil, ex_clo, bft, or_self, Bool.false_eq_true, tab3, tab23, tab25, tab31, tab34, hN, pe, Int.toNat_natCast, encT, lk_spec_flip_spec_rotated, lk_spec_flip_spec_inCircle, sp_spec_rotated, sp_spec_inCircle, el, g2, n0, n5, tn, hu2, pa, pb, pc, pz, va, vb, vc, vz, hsg, c1, hwn, Int.toNat_natCast]
            exact ⟨⟨by omega, by omega⟩, by omega, n + 1, id, ⟨by omega, firstN_next n4 hf1⟩, by simp only []; omega, by simp [SLe, SLe0, convTm, convHp, convB, conv, conv0, convL, lkT, lkH, clean]⟩
          | true =>
            cases c2 : ((y : Int) == (a : Int)) with
            | false =>
              rw [c1, c2] at hfl
              rw [hfl] at hf1
              simp only [V_seq, V_skip, V_block, V_region, V_draw, V_cond, brW_false, drawW, WS_nil, pairsOf, W_nil, W_cons, effOp2, effOp3, WI_nil, WI_cons, KN_seq, KN_block, KN_back, dynOK, indB, farB, freshB, freshK, freshK1, heapy, asB, effOp, effPure, effPick, effNew, effAlloc, effStore, effCall, giveUp, hasAll, skipE, pureV, pickV, storeV, binV, partV, eltV, loadV, faddrV, iaddrV, over, solid, IV.cells, ofC, strip, lkT, lkH, ISt.app, opI, gO, gB, allB, gval, wrapG, dstOK, setD, mentTm, mentHp, IV.ment, IV.mentL, oneI, lendV, lendP, lent, lentP, idsV, idsL, lkHS, flat, flatL, clean, cleanL, callArgs, callFn, allLent, IBlk.shape, Op.operands, Call.operands, List.append_toArray, reduceIte, reduceCtorEq, cond_true, cond_false, Bool.or_false, Bool.or_true, Bool.and_true, Bool.and_eq_true, Bool.not_true, Bool.not_false, Nat.reduceAdd, Nat.reduceLT, Nat.reduceLeDiff, Nat.reduceEqDiff, Nat.reduceBEq, Nat.add_zero, Nat.zero_add, ne_eq, not_false_eq_true, beq_self_eq_true, true_and, and_true, false_and, and_false, and_self, false_implies, implies_true, forall_const, List.map_cons, List.map_nil, List.nil_append, List.cons_append, List.append_nil, List.all_cons, List.all_nil, Option.map_some, Option.bind_some, List.getElem?_cons_zero, List.getElem?_cons_succ, List.getD_cons_zero, List.getD_cons_succ, List.length_cons, List.length_nil, List.take_succ_cons, List.take_zero, List.take_nil, List.drop_succ_cons, List.drop_zero, List.drop_nil, ex_clo, bft, or_self, Bool.true_eq_false, Bool.false_eq_true, tab3, tab23, tab25, tab31, tab34, hN, pe, Int.toNat_natCast, encT, lk_spec_flip_spec_rotated, lk_spec_flip_spec_inCircle, sp_spec_rotated, sp_spec_inCircle, el, g2, n0, n5, tn, hu2, pa, pb, pc, pz, va, vb, vc, vz, hsg, c1, c2, hwn, Int.toNat_natCast]
              exact ⟨⟨by omega, by omega⟩, by omega, n + 1, id, ⟨by omega, firstN_next n4 hf1⟩, by simp only []; omega, by simp [SLe, SLe0, convTm, convHp, convB, conv, conv0, convL, lkT, lkH, clean]⟩
            | true =>
              cases c3 : decide (0 < inC (pAt p a) (pAt p b) (pAt p c) (pAt p z)) with
              | false =>
                rw [c1, c2, c3] at hfl
                rw [hfl] at hf1
                simp only [V_seq, V_skip, V_block, V_region, V_draw, V_cond, brW_false, drawW, WS_nil, pairsOf, W_nil, W_cons, effOp2, effOp3, WI_nil, WI_cons, KN_seq, KN_block, KN_back, dynOK, indB, farB, freshB, freshK, freshK1, heapy, asB, effOp, effPure, effPick, effNew, effAlloc, effStore, effCall, giveUp, hasAll, skipE, pureV, pickV, storeV, binV, partV, eltV, loadV, faddrV, iaddrV, over, solid, IV.cells, ofC, strip, lkT, lkH, ISt.app, opI, gO, gB, allB, gval, wrapG, dstOK, setD, mentTm, mentHp, IV.ment, IV.mentL, oneI, lendV, lendP, lent, lentP, idsV, idsL, lkHS, flat, flatL, clean, cleanL, callArgs, callFn, allLent, IBlk.shape, Op.operands, Call.operands, List.append_toArray, reduceIte, reduceCtorEq, cond_true, cond_false, Bool.or_false, Bool.and_true, Bool.and_eq_true, Bool.not_true, Bool.not_false, Nat.reduceAdd, Nat.reduceLT, Nat.reduceLeDiff, Nat.reduceEqDiff, Nat.reduceBEq, Nat.add_zero, Nat.zero_add, ne_eq, not_false_eq_true, beq_self_eq_true, true_and, and_true, and_false, and_self, implies_true, forall_const, List.map_cons, List.map_nil, List.nil_append, List.cons_append, List.append_nil, List.all_cons, List.all_nil, Option.map_some, Option.bind_some, List.getElem?_cons_zero, List.getElem?_cons_succ, List.getD_cons_zero, List.getD_cons_succ, List.length_cons, List.length_nil, List.take_succ_cons, List.take_zero, List.take_nil, List.drop_succ_cons, List.drop_zero, List.drop_nil, ex_clo, or_self, Bool.true_eq_false, tab3, tab23, tab25, tab31, tab34, hN, pe, Int.toNat_natCast, encT, lk_spec_flip_spec_rotated, lk_spec_flip_spec_inCircle, sp_spec_rotated, sp_spec_inCircle, el, g2, n0, n5, tn, hu2, pa, pb, pc, pz, va, vb, vc, vz, hsg, c1, c2, c3, hwn, Int.toNat_natCast]
                exact ⟨⟨by omega, by omega⟩, by omega, ⟨by omega, by omega⟩, ⟨by omega, by omega⟩, ⟨by omega, by omega⟩, ⟨by omega, by omega⟩, n + 1, id, ⟨by omega, firstN_next n4 hf1⟩, by simp only []; omega, by simp [SLe, SLe0, convTm, convHp, convB, conv, conv0, convL, lkT, lkH, clean]⟩
              | true =>
                rw [c1, c2, c3] at hfl
                rw [hfl] at hf1
                have hF := flip_hit hi' n1 hk' n2 hm' n3 hn' n4 hf1
                have v1 : (flipF p L).isSome = true := by rw [hF]; rfl
                have v2 : (flipF p L).getD L = flipL L i m ((a : Int), (b : Int), (c : Int)) ((x : Int), (y : Int), (z : Int)) := by rw [hF]; rfl
                have hs1 := encTs_set L i ((c : Int), (a : Int), (z : Int))
                have hs2 := encTs_set (L.set i ((c : Int), (a : Int), (z : Int))) m ((c : Int), (z : Int), (b : Int))
                have hfin : flipL L i m ((a : Int), (b : Int), (c : Int)) ((x : Int), (y : Int), (z : Int)) = (L.set i ((c : Int), (a : Int), (z : Int))).set m ((c : Int), (z : Int), (b : Int)) := rfl
                rw [hfin] at v2
                simp only [V_seq, V_skip, V_ret, V_block, V_region, V_draw, V_cond, brW_true, drawW, WS_nil, pairsOf, W_nil, W_cons, effOp2, effOp3, WI_nil, WI_cons, KN_seq, KXr_nil, KXr_seq, KXr_block, KXr_back, QE, dynOK, indB, farB, freshB, freshK, freshK1, heapy, asB, effOp, effPure, effPick, effNew, effAlloc, effStore, effCall, giveUp, hasAll, skipE, pureV, pickV, storeV, binV, partV, eltV, loadV, faddrV, iaddrV, over, solid, buildL, IV.cells, ofC, strip, lkT, lkH, ISt.app, opI, gO, gB, allB, gval, wrapG, dstOK, setD, mentTm, mentHp, IV.ment, IV.mentL, eltI, oneI, noId', lendV, lendP, lent, lentP, idsV, idsL, lkHS, flat, flatL, clean, cleanL, callArgs, callFn, allLent, conv, conv0, IBlk.shape, Op.operands, Call.operands, List.append_toArray, reduceIte, reduceCtorEq, cond_true, cond_false, Bool.or_false, Bool.and_true, Bool.true_and, Bool.and_eq_true, Bool.not_true, Bool.not_false, Nat.reduceAdd, Nat.reduceLT, Nat.reduceLeDiff, Nat.reduceEqDiff, Nat.reduceBEq, Nat.add_zero, Nat.zero_add, ne_eq, not_false_eq_true, beq_self_eq_true, true_and, and_true, false_and, and_false, and_self, implies_true, forall_const, List.map_cons, List.map_nil, List.nil_append, List.cons_append, List.append_nil, List.all_cons, List.all_nil, Option.map_some, Option.bind_some, List.getElem?_cons_zero, List.getElem?_cons_succ, List.getD_cons_zero, List.getD_cons_succ, List.length_cons, List.length_nil, List.take_succ_cons, List.take_zero, List.take_nil, List.drop_succ_cons, List.drop_zero, List.drop_nil, ex_clo, or_self, Bool.true_eq_false, tab3, tab23, tab25, tab31, tab34, hN, pe, Int.toNat_natCast, encT, FinH, resA, resV, SLe, SLe0, convTm, convHp, convB, lk_spec_flip_spec_rotated, lk_spec_flip_spec_inCircle, sp_spec_rotated, sp_spec_inCircle, el, g2, n0, n5, tn, hu2, pa, pb, pc, pz, va, vb, vc, vz, hsg, c1, c2, c3, v1, v2, hs1, hs2, Int.toNat_natCast, Nat.zero_add]
                exact ⟨⟨by omega, by omega⟩, by omega, ⟨by omega, by omega⟩, ⟨by omega, by omega⟩, ⟨by omega, by omega⟩, ⟨by omega, by omega⟩, ⟨by omega, by omega⟩, by omega, ⟨by omega, by omega⟩, by rw [len_encTs, List.length_set]; exact hm', id, by simp [convL]⟩
        · have hne : n = 3 := by have := of_decide_eq_false h; omega
          subst hne
          have hn := firstN_next n3 n4
          simp only [V_seq, V_ret, V_exit, V_region, W_nil, W_cons, effOp2, KN_seq, KN_block, KN_back, KXr_nil, KXe_nil, KXe_seq, KXe_block, KXe_back, QE, effOp, effPure, pureV, binV, ofC, strip, lkT, lkH, ISt.app, opI, gO, gB, allB, gval, wrapG, dstOK, setD, clean, conv, conv0, Op.operands, reduceIte, reduceCtorEq, Nat.reduceSub, Nat.reduceLT, Nat.reduceEqDiff, true_and, and_true, and_self, implies_true, List.map_cons, List.map_nil, List.nil_append, List.cons_append, hN, FinH, resA, resV, SLe, SLe0, convTm, convHp, convB, hwm]
          exact ⟨m + 1, id, ⟨by omega, hn⟩, by simp only []; omega, by simp [SLe, SLe0, convTm, convHp, convB, conv, conv0, convL, lkT, lkH, clean]⟩
      · have hme : m = L.length := by simp at h; omega
        subst hme
        have hn := firstN_next n2 n3
        simp only [V_seq, V_ret, V_exit, V_region, W_nil, W_cons, effOp2, KN_seq, KN_block, KN_back, KXr_nil, KXe_nil, KXe_seq, KXe_block, KXe_back, QE, effOp, effPure, pureV, binV, ofC, strip, lkT, lkH, ISt.app, opI, gO, gB, allB, gval, wrapG, dstOK, setD, clean, conv, conv0, Op.operands, reduceIte, reduceCtorEq, Nat.reduceLT, Nat.reduceEqDiff, true_and, and_true, and_self, implies_true, List.map_cons, List.map_nil, List.nil_append, List.cons_append, hN, FinH, resA, resV, SLe, SLe0, convTm, convHp, convB, hwk]
        exact ⟨k + 1, id, ⟨by omega, hn⟩, by simp only []; omega, by simp [SLe, SLe0, convTm, convHp, convB, conv, conv0, lkT, lkH, clean]⟩
    · have hke : k = 3 := by have := of_decide_eq_false h; omega
      subst hke
      have hn := firstN_next n1 n2
      simp only [V_seq, V_ret, V_exit, V_region, W_nil, W_cons, effOp2, KN_seq, KN_block, KN_back, KXr_nil, KXe_nil, KXe_seq, KXe_block, KXe_back, QE, effOp, effPure, pureV, binV, ofC, strip, lkT, lkH, ISt.app, opI, gO, gB, allB, gval, wrapG, dstOK, setD, clean, conv, conv0, Op.operands, reduceIte, reduceCtorEq, Nat.reduceSub, Nat.reduceLT, Nat.reduceEqDiff, true_and, and_true, and_self, implies_true, List.map_cons, List.map_nil, List.nil_append, List.cons_append, hN, FinH, resA, resV, SLe, SLe0, convTm, convHp, convB, hwi]
      exact ⟨i + 1, id, ⟨by omega, hn⟩, by simp only []; omega, by simp [SLe, SLe0, convTm, convHp, convB, conv, conv0, lkT, lkH, clean]⟩
  · have hie : i = L.length := by simp at h; omega
    subst hie
    have hF : flipF p L = none := n1
    have v1 : (flipF p L).isSome = false := by rw [hF]; rfl
    have v2 : (flipF p L).getD L = L := by rw [hF]; rfl
    simp only [V_seq, V_ret, V_exit, V_region, W_nil, W_cons, effOp2, KN_seq, KXr_nil, KXe_nil, KXe_seq, KXe_block, KXe_back, QE, effOp, effPure, pureV, ofC, strip, lkT, lkH, ISt.app, opI, gO, gB, allB, gval, wrapG, dstOK, setD, clean, conv, conv0, Op.operands, reduceIte, reduceCtorEq, Nat.reduceLT, Nat.reduceEqDiff, true_and, and_true, and_self, implies_true, List.map_cons, List.map_nil, List.nil_append, List.cons_append, hN, FinH, resA, resV, SLe, SLe0, convTm, convHp, convB, v1, v2]
    exact ⟨id, by simp [convL]⟩
def hs_spec_flip : HSpec := ⟨[true, false], fun xs hp => match xs, hp with | [.sl 2 ls, .ref 1000 0 n full], [(1000, .arr 3 ty es)] => (isPs ls) ∧ (isTs es) ∧ (ty = 31) ∧ (n = es.length) ∧ ((fun (p : List Pt) (L : List Tr) (full : Bool) => okPs p = true) (toPs ls) (toTs es) full) ∧ ((fun (p : List Pt) (L : List Tr) (full : Bool) => goodL p L) (toPs ls) (toTs es) full) ∧ ((fun (p : List Pt) (L : List Tr) (full : Bool) => L.length ≤ 1000000) (toPs ls) (toTs es) full) | _, _ => False, fun xs hp => match xs, hp with | [.sl 2 ls, .ref 1000 0 n full], [(1000, .arr 3 ty es)] => (fun (p : List Pt) (L : List Tr) (full : Bool) => (.bool (flipF p L).isSome : IV)) (toPs ls) (toTs es) full | _, _ => .junk, fun xs hp => match xs, hp with | [.sl 2 ls, .ref 1000 0 n full], [(1000, .arr 3 ty es)] => (fun (p : List Pt) (L : List Tr) (full : Bool) => ([(1000, .arr 3 31 (encTs ((flipF p L).getD L)))] : List (Nat × IBlk))) (toPs ls) (toTs es) full | _, _ => []⟩
theorem hk_spec_flip : ∀ args hp, hs_spec_flip.pre args hp → HCall Try.prog 27 args (sm hp) (hs_spec_flip.val args hp) (sm (hs_spec_flip.hval args hp)) := by
  intro args hp h
  unfold hs_spec_flip at h ⊢; simp only at h ⊢; split at h
  · obtain ⟨h0, h1, rfl, rfl, h2, h3, h4⟩ := h; obtain ⟨l, rfl⟩ := isP_ex h0; obtain ⟨m, rfl⟩ := isT_ex h1; rw [toPs_enc, toTs_enc] at *; rw [len_encTs]; exact c_spec_flip l m _ h2 h3 h4
  · exact h.elim
theorem en_spec_flip : Enters Try.prog 27 := enters_of Try.func27 (by kernel_rfl) rfl

end Go.Proofs.Yteaanfpkakaaoaa
