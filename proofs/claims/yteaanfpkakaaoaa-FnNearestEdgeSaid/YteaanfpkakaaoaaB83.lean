/- Flips: the program. -/
import Derived.Test.YteaanfpkakaaoaaB81
set_option linter.unusedVariables false
set_option linter.unusedSimpArgs false
set_option maxHeartbeats 16000000
set_option maxRecDepth 100000
namespace Go.Proofs.Yteaanfpkakaaoaa
open Go Go.Ideal Go.Pl Go.Sort

def g_impl_Triangle_corners : List (Nat × PSpec) := []
theorem gok_impl_Triangle_corners : GOK Try.prog g_impl_Triangle_corners := gok0
def h_impl_Triangle_corners : List (Nat × HSpec) := []
theorem hok_impl_Triangle_corners : HOK Try.prog h_impl_Triangle_corners := hok0
theorem c_impl_Triangle_corners (t : Tr)  : ICall Try.prog 51 [encT t] (encT t) := by
  refine icall_of_hcall (v := encT t) (hp' := []) id ?_ (by simp [SLe0, convTm, convHp, conv, convL, conv0, lkT, clean, encT]) (by simp [idsV, idsL, encT])
  refine hcall_V (G := g_impl_Triangle_corners) (H := []) [] tabOK mixed gok_impl_Triangle_corners hok_impl_Triangle_corners Try.func51 rfl Try.ntmps51 Try.results51 rfl (by kernel_rfl) fun F hN hlen => ?_
  simp only [V_seq, V_ret, V_region, W_nil, W_cons, effOp2, KN_seq, KXr_nil, QE, effOp, effPure, effNew, effAlloc, effBox, effStore, skipE, pureV, storeV, partV, loadV, faddrV, over, solid, buildL, IV.cells, ofC, strip, lkT, lkH, ISt.app, opI, gO, gB, allB, gval, wrapG, dstOK, setD, mentTm, mentHp, IV.ment, IV.mentL, oneI, clean, enumT, conv, conv0, convL, IBlk.shape, Op.operands, reduceIte, reduceCtorEq, cond_true, Bool.or_false, Bool.and_true, Nat.reduceAdd, Nat.reduceLT, Nat.reduceLeDiff, Nat.reduceEqDiff, Nat.reduceBEq, Nat.add_zero, Nat.zero_add, ne_eq, not_true_eq_false, true_and, and_true, false_and, and_false, and_self, implies_true, List.map_cons, List.map_nil, List.nil_append, List.cons_append, List.append_nil, List.all_cons, List.all_nil, Option.map_some, List.getD_cons_zero, List.getD_cons_succ, List.length_cons, List.length_nil, List.take_succ_cons, List.take_zero, List.take_nil, List.drop_succ_cons, List.drop_zero, List.drop_nil, tab3, tab31, tab69, hN, encT, FinH, resA, resV, SLe, SLe0, convTm, convHp]
  exact ⟨id, by simp⟩
def sp_impl_Triangle_corners : PSpec := ⟨fun xs => match xs with | [.agg [.num .i64 t1, .num .i64 t2, .num .i64 t3]] => True | _ => False, fun xs => match xs with | [.agg [.num _ t1, .num _ t2, .num _ t3]] => (fun (t : Tr) => encT t) (t1, t2, t3) | _ => .junk, false⟩
theorem gk_impl_Triangle_corners : ∀ args, sp_impl_Triangle_corners.pre args → ICall Try.prog 51 args (sp_impl_Triangle_corners.val args) := by
  intro args h
  unfold sp_impl_Triangle_corners at h ⊢; simp only at h ⊢; split at h
  · exact c_impl_Triangle_corners (_, _, _)
  · exact h.elim
theorem en_impl_Triangle_corners : Enters Try.prog 51 := enters_of Try.func51 (by kernel_rfl) rfl

theorem cor_at {t : Tr} : ∀ {s : Nat}, s < 3 → [IV.num .i64 t.1, .num .i64 t.2.1, .num .i64 t.2.2].getD s .junk = .num .i64 (rotT t s).1 ∧ [IV.num .i64 t.1, .num .i64 t.2.1, .num .i64 t.2.2].getD ((s + 1) % 3) .junk = .num .i64 (rotT t s).2.1 ∧ [IV.num .i64 t.1, .num .i64 t.2.1, .num .i64 t.2.2].getD ((s + 2) % 3) .junk = .num .i64 (rotT t s).2.2
  | 0, _ => ⟨rfl, rfl, rfl⟩
  | 1, _ => ⟨rfl, rfl, rfl⟩
  | 2, _ => ⟨rfl, rfl, rfl⟩
  | n + 3, h => by omega
theorem tm3 (n : Nat) : ((n : Nat) : Int).tmod 3 = ((n % 3 : Nat) : Int) := by rw [Int.tmod_eq_emod_of_nonneg (by omega)]; simp
def g_impl_flip : List (Nat × PSpec) := [(51, sp_impl_Triangle_corners), (52, sp_impl_inCircle)]
theorem gok_impl_flip : GOK Try.prog g_impl_flip := gok_cons gk_impl_Triangle_corners en_impl_Triangle_corners (gok_cons gk_impl_inCircle en_impl_inCircle (gok0))
theorem lk_impl_flip_impl_Triangle_corners : lkG g_impl_flip 51 = sp_impl_Triangle_corners := rfl
theorem lk_impl_flip_impl_inCircle : lkG g_impl_flip 52 = sp_impl_inCircle := rfl
def h_impl_flip : List (Nat × HSpec) := []
theorem hok_impl_flip : HOK Try.prog h_impl_flip := hok0
theorem c_impl_flip (p : List Pt) (L : List Tr) (full : Bool) (hk : okPs p = true) (hg : goodL p L) (hz : L.length ≤ 1000000) : HCall Try.prog 24 [.sl 2 (encPs p), .ref 1000 0 L.length full] (sm ([(1000, .arr 3 31 (encTs L))])) (.bool (flipF p L).isSome) (sm ([(1000, .arr 3 31 (encTs ((flipF p L).getD L)))])) := by
  refine hcall_V (G := g_impl_flip) (H := []) [(18, [(0, 16), (1, 16), (2, 16), (4, 16), (5, 16), (6, 16), (8, 16), (9, 16), (10, 16), (12, 16), (13, 16), (14, 16)])] tabOK mixed gok_impl_flip hok_impl_flip Try.func24 rfl Try.ntmps24 Try.results24 rfl (by kernel_rfl) fun F hN hlen => ?_
  simp only [sm]
  have el := len_encTs L
  have ep := len_encPs p
  have hx : ∃ k ty es, IBlk.arr 3 31 (encTs L) = IBlk.arr k ty es := ⟨_, _, _, rfl⟩
  simp only [V_seq, V_block, V_region, W_nil, W_cons, effOp2, KN_seq, effOp, effPure, pureV, lenV, ofC, strip, lkT, ISt.app, opI, gO, gB, allB, gval, wrapG, dstOK, setD, enumT, Op.operands, Call.operands, List.append_toArray, reduceIte, reduceCtorEq, Nat.reduceLT, Nat.reduceEqDiff, Nat.zero_add, ne_eq, not_false_eq_true, true_and, and_self, implies_true, List.nil_append, List.cons_append, tab25, hN]
  refine V_loop (α := Nat) ⟨tabOK, mixed, gok_impl_flip, hok_impl_flip⟩ (by kernel_rfl) (fun i => i ≤ L.length ∧ firstN (flip4 p L) i = none) (fun i => ⟨[(19, .num .i64 i), (18, .num .i64 L.length), (17, .ref 1000 0 L.length full), (0, .sl 2 (encPs p)), (1, .ref 1000 0 L.length full)], [(1000, some (.arr 3 31 (encTs L)))]⟩) (fun i => L.length - i) 0 id ⟨Nat.zero_le _, rfl⟩ (by simp [SLe, SLe0, convTm, convHp, convB, conv, conv0, lkT, lkH, clean]) ?_
  rintro i ⟨hi, n1⟩
  simp only [V_seq, V_region, V_cond, W_nil, W_cons, effOp2, KN_seq, asB, effOp, effPure, pureV, binV, strip, lkT, ISt.app, opI, gO, gB, allB, gval, wrapG, dstOK, setD, Op.operands, reduceIte, reduceCtorEq, Nat.reduceLT, Nat.reduceEqDiff, true_and, and_self, implies_true, List.nil_append, List.cons_append, hN]
  refine brW_some (fun h => ?_) (fun h => ?_)
  · have hi' : i < L.length := by simpa using h
    have hwi := wr_succ hi' (by rw [maxLen_eq]; omega)
    have g1 := getD_encTs hi'
    have gti := hg (t3 L i) (t3_mem hi')
    obtain ⟨t, htt⟩ : ∃ t, t3 L i = t := ⟨_, rfl⟩
    have htt2 : tAt L i = t := htt
    rw [htt] at gti
    rw [htt2] at g1
    have e3 : ((3 : Nat) : Int) = 3 := rfl
    simp only [V_seq, V_skip, V_block, V_region, W_nil, W_cons, effOp2, KN_seq, effOp, effPure, effNew, effAlloc, effStore, effCall, giveUp, hasAll, skipE, pureV, storeV, partV, eltV, loadV, iaddrV, over, solid, IV.cells, ofC, strip, lkT, lkH, ISt.app, opI, gO, gB, allB, gval, wrapG, dstOK, setD, mentTm, mentHp, IV.ment, IV.mentL, oneI, lendV, lendP, lent, lentP, idsV, idsL, lkHS, flat, flatL, clean, cleanL, callArgs, callFn, allLent, Op.operands, reduceIte, reduceCtorEq, cond_true, Bool.or_false, Bool.and_true, Bool.not_true, Nat.reduceAdd, Nat.reduceLT, Nat.reduceLeDiff, Nat.reduceEqDiff, Nat.reduceBEq, Nat.zero_add, ne_eq, not_false_eq_true, true_and, and_true, and_false, and_self, implies_true, forall_const, List.map_cons, List.map_nil, List.nil_append, List.cons_append, List.append_nil, List.all_cons, List.all_nil, List.getD_cons_zero, List.length_cons, List.length_nil, List.take_succ_cons, List.take_zero, List.take_nil, List.drop_succ_cons, List.drop_zero, List.drop_nil, ex_clo, or_self, tab25, tab31, tab69, hN, Int.toNat_natCast, encT, lk_impl_flip_impl_Triangle_corners, sp_impl_Triangle_corners, el, g1, Int.toNat_natCast]
    refine ⟨⟨by omega, by omega⟩, by omega, ?_⟩
    refine V_loop (α := Nat) ⟨tabOK, mixed, gok_impl_flip, hok_impl_flip⟩ (by kernel_rfl) (fun k => k ≤ 3 ∧ firstN (flip3 p L i) k = none) (fun k => ⟨[(26, .num .i64 k), (7, .ptr 7 0), (5, .num .i64 i), (19, .num .i64 i), (18, .num .i64 L.length), (17, .ref 1000 0 L.length full), (0, .sl 2 (encPs p)), (1, .ref 1000 0 L.length full)], [(7, some (.box 69 [.num .i64 t.1, .num .i64 t.2.1, .num .i64 t.2.2])), (1000, some (.arr 3 31 (encTs L)))]⟩) (fun k => 3 - k) 0 id ⟨by omega, rfl⟩ (by simp [SLe, SLe0, convTm, convHp, convB, conv, conv0, convL, lkT, lkH, clean]) ?_
    rintro k ⟨hk3, n2⟩
    simp only [V_seq, V_region, V_cond, W_nil, W_cons, effOp2, KN_seq, asB, effOp, effPure, pureV, binV, ofC, strip, lkT, ISt.app, opI, gO, gB, allB, gval, wrapG, dstOK, setD, Op.operands, reduceIte, reduceCtorEq, Nat.reduceLT, Nat.reduceEqDiff, true_and, and_self, implies_true, List.nil_append, List.cons_append, hN]
    refine brW_some (fun h => ?_) (fun h => ?_)
    · have hk' : k < 3 := by have := of_decide_eq_true h; omega
      have hwk : IntKind.i64.wrap (((k : Nat) : Int) + 1) = ((k + 1 : Nat) : Int) := by rw [wr (by omega) (by omega)]; omega
      have hwk2 : IntKind.i64.wrap (((k : Nat) : Int) + 2) = ((k + 2 : Nat) : Int) := by rw [wr (by omega) (by omega)]; omega
      have gt := good_rot gti k
      obtain ⟨q1, q2, q3⟩ := cor_at (t := t) hk'
      have hq : areaT p (rotT t k) > 0 := gt.2.2.2
      obtain ⟨a, b, c, ht, ha, hb, hc⟩ := good_vp hk gt
      rw [ht] at q1 q2 q3 hq
      have m1 := tm3 (k + 1)
      have m2 := tm3 (k + 2)
      have l1 : (k + 1) % 3 < 3 := Nat.mod_lt _ (by omega)
      have l2 : (k + 2) % 3 < 3 := Nat.mod_lt _ (by omega)
      simp only [V_seq, V_skip, V_block, V_region, V_draw, drawW, pairsOf, W_nil, W_cons, WD_nil, WD_cons, effOp2, effOp3, KN_seq, effOp, effPure, pureV, binV, partV, loadV, iaddrV, lenV, ofC, strip, lkT, lkH, ISt.app, opI, gO, gB, allB, gval, wrapG, dstOK, setD, IBlk.shape, Op.operands, Call.operands, List.append_toArray, reduceIte, reduceCtorEq, Nat.reduceAdd, Nat.reduceLT, Nat.reduceLeDiff, Nat.reduceEqDiff, Nat.zero_add, ne_eq, not_false_eq_true, true_and, and_true, and_self, implies_true, forall_const, List.nil_append, List.cons_append, Option.map_some, List.length_cons, List.length_nil, tab3, tab25, tab69, hN, Int.toNat_natCast, hwk, hwk2, m1, m2, q1, q2, q3, Int.toNat_natCast, Nat.zero_add]
      refine ⟨⟨by omega, by omega⟩, by omega, by decide, ⟨by omega, by omega⟩, by omega, by decide, ⟨by omega, by omega⟩, by omega, ?_⟩
      refine V_loop (α := Nat) ⟨tabOK, mixed, gok_impl_flip, hok_impl_flip⟩ (by kernel_rfl) (fun m => m ≤ L.length ∧ firstN (flip2 p L i k) m = none) (fun m => ⟨[(44, .num .i64 m), (43, .num .i64 L.length), (42, .ref 1000 0 L.length full), (11, .num .i64 c), (10, .num .i64 b), (9, .num .i64 a), (8, .num .i64 k), (26, .num .i64 k), (7, .ptr 7 0), (5, .num .i64 i), (19, .num .i64 i), (18, .num .i64 L.length), (17, .ref 1000 0 L.length full), (0, .sl 2 (encPs p)), (1, .ref 1000 0 L.length full)], [(7, some (.box 69 [.num .i64 t.1, .num .i64 t.2.1, .num .i64 t.2.2])), (1000, some (.arr 3 31 (encTs L)))]⟩) (fun m => L.length - m) 0 id ⟨Nat.zero_le _, rfl⟩ (by simp [SLe, SLe0, convTm, convHp, convB, conv, conv0, convL, lkT, lkH, clean]) ?_
      rintro m ⟨hm, n3⟩
      simp only [V_seq, V_region, V_cond, W_nil, W_cons, effOp2, KN_seq, asB, effOp, effPure, pureV, binV, strip, lkT, ISt.app, opI, gO, gB, allB, gval, wrapG, dstOK, setD, Op.operands, reduceIte, reduceCtorEq, Nat.reduceLT, Nat.reduceEqDiff, true_and, and_self, implies_true, List.nil_append, List.cons_append, hN]
      refine brW_some (fun h => ?_) (fun h => ?_)
      · have hm' : m < L.length := by simpa using h
        have hwm := wr_succ hm' (by rw [maxLen_eq]; omega)
        have g2 := getD_encTs hm'
        have gtm := hg (t3 L m) (t3_mem hm')
        obtain ⟨u, huu⟩ : ∃ u, t3 L m = u := ⟨_, rfl⟩
        have huu2 : tAt L m = u := huu
        rw [huu] at gtm
        rw [huu2] at g2
        simp only [V_seq, V_skip, V_block, V_region, W_nil, W_cons, effOp2, KN_seq, effOp, effPure, effNew, effAlloc, effStore, effCall, giveUp, hasAll, skipE, pureV, storeV, partV, eltV, loadV, iaddrV, over, solid, IV.cells, ofC, strip, lkT, lkH, ISt.app, opI, gO, gB, allB, gval, wrapG, dstOK, setD, mentTm, mentHp, IV.ment, IV.mentL, oneI, lendV, lendP, lent, lentP, idsV, idsL, lkHS, flat, flatL, clean, cleanL, callArgs, callFn, allLent, Op.operands, reduceIte, reduceCtorEq, cond_true, Bool.or_false, Bool.and_true, Bool.not_true, Nat.reduceAdd, Nat.reduceLT, Nat.reduceLeDiff, Nat.reduceEqDiff, Nat.reduceBEq, Nat.zero_add, ne_eq, not_false_eq_true, true_and, and_true, and_false, and_self, implies_true, forall_const, List.map_cons, List.map_nil, List.nil_append, List.cons_append, List.append_nil, List.all_cons, List.all_nil, List.getD_cons_zero, List.length_cons, List.length_nil, List.take_succ_cons, List.take_zero, List.take_nil, List.drop_succ_cons, List.drop_zero, List.drop_nil, ex_clo, or_self, tab25, tab31, tab69, hN, Int.toNat_natCast, encT, lk_impl_flip_impl_Triangle_corners, sp_impl_Triangle_corners, el, g2, Int.toNat_natCast]
        refine ⟨⟨by omega, by omega⟩, by omega, ?_⟩
        refine V_loop (α := Nat) ⟨tabOK, mixed, gok_impl_flip, hok_impl_flip⟩ (by kernel_rfl) (fun n => n ≤ 3 ∧ firstN (flip1 p L i k m) n = none) (fun n => ⟨[(51, .num .i64 n), (14, .ptr 14 0), (12, .num .i64 m), (44, .num .i64 m), (43, .num .i64 L.length), (42, .ref 1000 0 L.length full), (11, .num .i64 c), (10, .num .i64 b), (9, .num .i64 a), (8, .num .i64 k), (26, .num .i64 k), (7, .ptr 7 0), (5, .num .i64 i), (19, .num .i64 i), (18, .num .i64 L.length), (17, .ref 1000 0 L.length full), (0, .sl 2 (encPs p)), (1, .ref 1000 0 L.length full)], [(14, some (.box 69 [.num .i64 u.1, .num .i64 u.2.1, .num .i64 u.2.2])), (7, some (.box 69 [.num .i64 t.1, .num .i64 t.2.1, .num .i64 t.2.2])), (1000, some (.arr 3 31 (encTs L)))]⟩) (fun n => 3 - n) 0 id ⟨by omega, rfl⟩ (by simp [SLe, SLe0, convTm, convHp, convB, conv, conv0, convL, lkT, lkH, clean]) ?_
        rintro n ⟨hn3, n4⟩
        simp only [V_seq, V_region, V_cond, W_nil, W_cons, effOp2, KN_seq, asB, effOp, effPure, pureV, binV, ofC, strip, lkT, ISt.app, opI, gO, gB, allB, gval, wrapG, dstOK, setD, Op.operands, reduceIte, reduceCtorEq, Nat.reduceLT, Nat.reduceEqDiff, true_and, and_self, implies_true, List.nil_append, List.cons_append, hN]
        refine brW_some (fun h => ?_) (fun h => ?_)
        · have hn' : n < 3 := by have := of_decide_eq_true h; omega
          have hwn : IntKind.i64.wrap (((n : Nat) : Int) + 1) = ((n + 1 : Nat) : Int) := by rw [wr (by omega) (by omega)]; omega
          have hwn2 : IntKind.i64.wrap (((n : Nat) : Int) + 2) = ((n + 2 : Nat) : Int) := by rw [wr (by omega) (by omega)]; omega
          have gu := good_rot gtm n
          obtain ⟨r1, r2, r3⟩ := cor_at (t := u) hn'
          obtain ⟨x, y, z, hu, hxl, hyl, hzl⟩ := good_vp hk gu
          rw [hu] at r1 r2 r3
          have v1n := tm3 (n + 1)
          have v2n := tm3 (n + 2)
          have w1 : (n + 1) % 3 < 3 := Nat.mod_lt _ (by omega)
          have w2 : (n + 2) % 3 < 3 := Nat.mod_lt _ (by omega)
          have pa := getD_encPs ha
          have pb := getD_encPs hb
          have pc := getD_encPs hc
          have pz := getD_encPs hzl
          have va := okPs_vp hk ha
          have vb := okPs_vp hk hb
          have vc := okPs_vp hk hc
          have vz := okPs_vp hk hzl
          have hfl : flipB p (rotT (t3 L i) k) (rotT (t3 L m) n) = (((x : Int) == (b : Int) && (y : Int) == (a : Int)) && decide (0 < inC (pAt p a) (pAt p b) (pAt p c) (pAt p z))) := by
            rw [htt, huu, ht, hu]; rfl
          have hf1 : flip1 p L i k m n = if flipB p (rotT (t3 L i) k) (rotT (t3 L m) n) then some (flipL L i m ((a : Int), (b : Int), (c : Int)) ((x : Int), (y : Int), (z : Int))) else none := by rw [← ht, ← hu, ← htt, ← huu]; rfl
          have hsg0 : sgnI (turn (pAt p a) (pAt p b) (pAt p c)) = 1 := by
            have : 0 < turn (pAt p a) (pAt p b) (pAt p c) := hq
            unfold sgnI; split <;> (try split) <;> omega
          have hsg : decide (0 < sgnI (inC (pAt p a) (pAt p b) (pAt p c) (pAt p z)) * sgnI (turn (pAt p a) (pAt p b) (pAt p c))) = decide (0 < inC (pAt p a) (pAt p b) (pAt p c) (pAt p z)) := by
            rw [hsg0, Int.mul_one]; exact sgn_posD _
          have bne1 : ((x : Int) != (b : Int)) = !((x : Int) == (b : Int)) := rfl
          have bne2 : ((y : Int) != (a : Int)) = !((y : Int) == (a : Int)) := rfl
          cases c1 : ((x : Int) == (b : Int)) with
          | false =>
            rw [c1] at hfl bne1
            rw [hfl] at hf1
            simp only [V_seq, V_skip, V_ret, V_exit, V_block, V_region, V_cond, brW_true, W_nil, W_cons, effOp2, KN_seq, KN_block, KN_back, KXr_nil, KXe_nil, KXe_seq, KXe_block, KXe_back, QE, asB, effOp, effPure, effPick, pureV, pickV, binV, partV, loadV, iaddrV, ofC, strip, lkT, lkH, ISt.app, opI, gO, gB, allB, gval, wrapG, dstOK, setD, clean, conv, conv0, IBlk.shape, Op.operands, reduceIte, reduceCtorEq, cond_true, Bool.not_false, Nat.reduceAdd, Nat.reduceLT, Nat.reduceLeDiff, Nat.reduceEqDiff, Nat.zero_add, ne_eq, true_and, and_true, false_and, and_false, and_self, false_implies, implies_true, forall_const, List.map_cons, List.map_nil, List.nil_append, List.cons_append, Option.map_some, Option.bind_some, List.getElem?_cons_zero, List.getElem?_cons_succ, List.length_cons, List.length_nil, btf, Bool.true_eq_false, Bool.false_eq_true, tab3, tab69, hN, Int.toNat_natCast, FinH, resA, resV, SLe, SLe0, convTm, convHp, convB, bne1, bne2, r1, r2, v1n, hwn, Int.toNat_natCast, Nat.zero_add]
            exact ⟨⟨by omega, by omega⟩, by omega, n + 1, id, ⟨by omega, firstN_next n4 hf1⟩, by simp only []; omega, by simp [SLe, SLe0, convTm, convHp, convB, conv, conv0, convL, lkT, lkH, clean]⟩
          | true =>
            rw [c1] at bne1
            cases c2 : ((y : Int) == (a : Int)) with
            | false =>
              rw [c1, c2] at hfl
              rw [c2] at bne2
              rw [hfl] at hf1
              simp only [V_seq, V_skip, V_ret, V_exit, V_block, V_region, V_cond, brW_true, W_nil, W_cons, effOp2, KN_seq, KN_block, KN_back, KXr_nil, KXe_nil, KXe_seq, KXe_block, KXe_back, QE, asB, effOp, effPure, effPick, pureV, pickV, binV, partV, loadV, iaddrV, ofC, strip, lkT, lkH, ISt.app, opI, gO, gB, allB, gval, wrapG, dstOK, setD, clean, conv, conv0, IBlk.shape, Op.operands, reduceIte, reduceCtorEq, cond_false, Bool.not_true, Bool.not_false, Nat.reduceAdd, Nat.reduceLT, Nat.reduceLeDiff, Nat.reduceEqDiff, Nat.zero_add, ne_eq, beq_self_eq_true, true_and, and_true, and_self, implies_true, forall_const, List.map_cons, List.map_nil, List.nil_append, List.cons_append, Option.map_some, Option.bind_some, List.getElem?_cons_zero, List.getElem?_cons_succ, List.length_cons, List.length_nil, Bool.false_eq_true, tab3, tab69, hN, Int.toNat_natCast, FinH, resA, resV, SLe, SLe0, convTm, convHp, convB, bne1, bne2, r1, r2, v1n, hwn, Int.toNat_natCast, Nat.zero_add]
              exact ⟨⟨by omega, by omega⟩, by omega, by decide, ⟨by omega, by omega⟩, by omega, n + 1, id, ⟨by omega, firstN_next n4 hf1⟩, by simp only []; omega, by simp [SLe, SLe0, convTm, convHp, convB, conv, conv0, convL, lkT, lkH, clean]⟩
            | true =>
              rw [c2] at bne2
              cases c3 : decide (0 < inC (pAt p a) (pAt p b) (pAt p c) (pAt p z)) with
              | false =>
                rw [c1, c2, c3] at hfl
                rw [c3] at hsg
                rw [hfl] at hf1
                simp only [V_seq, V_skip, V_block, V_region, V_draw, V_cond, brW_false, drawW, WS_nil, pairsOf, W_nil, W_cons, effOp2, effOp3, WI_nil, WI_cons, KN_seq, KN_block, KN_back, dynOK, indB, farB, freshB, freshK, freshK1, heapy, asB, effOp, effPure, effPick, effCall, giveUp, hasAll, pureV, pickV, binV, partV, eltV, loadV, iaddrV, ofC, strip, lkT, lkH, ISt.app, opI, gO, gB, allB, gval, wrapG, dstOK, setD, mentTm, mentHp, IV.ment, lendV, lendP, lent, lentP, idsV, idsL, lkHS, flat, clean, callArgs, callFn, allLent, IBlk.shape, Op.operands, Call.operands, List.append_toArray, reduceIte, reduceCtorEq, cond_true, cond_false, Bool.or_false, Bool.and_true, Bool.and_eq_true, Bool.not_true, Bool.not_false, Nat.reduceAdd, Nat.reduceLT, Nat.reduceLeDiff, Nat.reduceEqDiff, Nat.reduceBEq, Nat.zero_add, ne_eq, not_false_eq_true, beq_self_eq_true, true_and, and_true, and_false, and_self, implies_true, forall_const, List.map_cons, List.map_nil, List.nil_append, List.cons_append, List.append_nil, Option.map_some, Option.bind_some, List.getElem?_cons_zero, List.getElem?_cons_succ, List.getD_cons_zero, List.getD_cons_succ, List.length_cons, List.length_nil, List.take_succ_cons, List.take_zero, List.take_nil, List.drop_zero, ex_clo, or_self, Bool.false_eq_true, tab3, tab23, tab34, tab69, hN, pe, Int.toNat_natCast, lk_impl_flip_impl_inCircle, sp_impl_inCircle, bne1, bne2, r1, r2, r3, v1n, v2n, hwn, hwn2, pa, pb, pc, pz, va, vb, vc, vz, hsg, Int.toNat_natCast, Nat.zero_add]
                exact ⟨⟨by omega, by omega⟩, by omega, by decide, ⟨by omega, by omega⟩, by omega, by decide, ⟨by omega, by omega⟩, by omega, ⟨by omega, by omega⟩, ⟨by omega, by omega⟩, ⟨by omega, by omega⟩, ⟨by omega, by omega⟩, n + 1, id, ⟨by omega, firstN_next n4 hf1⟩, by simp only []; omega, by simp [SLe, SLe0, convTm, convHp, convB, conv, conv0, convL, lkT, lkH, clean]⟩
              | true =>
                rw [c1, c2, c3] at hfl
                rw [c3] at hsg
                rw [hfl] at hf1
                have hF := flip_hit hi' n1 hk' n2 hm' n3 hn' n4 hf1
                have v1 : (flipF p L).isSome = true := by rw [hF]; rfl
                have v2 : (flipF p L).getD L = flipL L i m ((a : Int), (b : Int), (c : Int)) ((x : Int), (y : Int), (z : Int)) := by rw [hF]; rfl
                have hs1 := encTs_set L i ((c : Int), (a : Int), (z : Int))
                have hs2 := encTs_set (L.set i ((c : Int), (a : Int), (z : Int))) m ((c : Int), (z : Int), (b : Int))
                have hfin : flipL L i m ((a : Int), (b : Int), (c : Int)) ((x : Int), (y : Int), (z : Int)) = (L.set i ((c : Int), (a : Int), (z : Int))).set m ((c : Int), (z : Int), (b : Int)) := rfl
                rw [hfin] at v2
                simp only [V_seq, V_skip, V_ret, V_block, V_region, V_draw, V_cond, brW_true, brW_false, drawW, WS_nil, pairsOf, W_nil, W_cons, effOp2, effOp3, WI_nil, WI_cons, KN_seq, KXr_nil, KXr_seq, KXr_block, KXr_back, QE, dynOK, indB, farB, freshB, freshK, freshK1, heapy, asB, effOp, effPure, effPick, effStore, effCall, giveUp, hasAll, pureV, pickV, storeV, binV, partV, eltV, loadV, iaddrV, over, solid, buildL, IV.cells, ofC, strip, lkT, lkH, ISt.app, opI, gO, gB, allB, gval, wrapG, dstOK, setD, mentTm, mentHp, IV.ment, eltI, oneI, noId', lendV, lendP, lent, lentP, idsV, idsL, lkHS, flat, clean, callArgs, callFn, allLent, conv, conv0, IBlk.shape, Op.operands, Call.operands, List.append_toArray, reduceIte, reduceCtorEq, cond_true, cond_false, Bool.or_false, Bool.and_true, Bool.true_and, Bool.and_eq_true, Bool.not_true, Bool.not_false, Nat.reduceAdd, Nat.reduceLT, Nat.reduceLeDiff, Nat.reduceEqDiff, Nat.reduceBEq, Nat.zero_add, ne_eq, not_false_eq_true, beq_self_eq_true, true_and, and_true, false_and, and_false, and_self, implies_true, forall_const, List.map_cons, List.map_nil, List.nil_append, List.cons_append, List.append_nil, List.all_cons, List.all_nil, Option.map_some, Option.bind_some, List.getElem?_cons_zero, List.getElem?_cons_succ, List.getD_cons_zero, List.getD_cons_succ, List.length_cons, List.length_nil, List.take_succ_cons, List.take_zero, List.take_nil, List.drop_succ_cons, List.drop_zero, List.drop_nil, ex_clo, or_self, Bool.false_eq_true, tab3, tab23, tab25, tab31, tab34, tab69, hN, pe, Int.toNat_natCast, FinH, resA, resV, SLe, SLe0, convTm, convHp, convB, lk_impl_flip_impl_inCircle, sp_impl_inCircle, el, bne1, bne2, r1, r2, r3, v1n, v2n, hwn, hwn2, pa, pb, pc, pz, va, vb, vc, vz, hsg, v1, v2, hs1, hs2, Int.toNat_natCast, Nat.zero_add]
                exact ⟨⟨by omega, by omega⟩, by omega, by decide, ⟨by omega, by omega⟩, by omega, by decide, ⟨by omega, by omega⟩, by omega, ⟨by omega, by omega⟩, ⟨by omega, by omega⟩, ⟨by omega, by omega⟩, ⟨by omega, by omega⟩, ⟨by omega, by omega⟩, by omega, ⟨by omega, by omega⟩, by rw [len_encTs, List.length_set]; exact hm', id, by simp [convL]⟩
        · have hne : n = 3 := by have := of_decide_eq_false h; omega
          subst hne
          have hn := firstN_next n3 n4
          simp only [V_seq, V_ret, V_exit, V_region, W_nil, W_cons, effOp2, KN_seq, KN_block, KN_back, KXr_nil, KXe_nil, KXe_seq, KXe_block, KXe_back, QE, effOp, effPure, pureV, binV, ofC, strip, lkT, lkH, ISt.app, opI, gO, gB, allB, gval, wrapG, dstOK, setD, clean, conv, conv0, Op.operands, reduceIte, reduceCtorEq, Nat.reduceSub, Nat.reduceLT, Nat.reduceEqDiff, true_and, and_true, and_self, implies_true, List.map_cons, List.map_nil, List.nil_append, List.cons_append, hN, FinH, resA, resV, SLe, SLe0, convTm, convHp, convB, hwm]
          exact ⟨m + 1, id, ⟨by omega, hn⟩, by simp only []; omega, by simp [SLe, SLe0, convTm, convHp, convB, conv, conv0, convL, lkT, lkH, clean]⟩
      · have hme : m = L.length := by simp at h; omega
        subst hme
        have hn := firstN_next n2 n3
        simp only [V_seq, V_ret, V_exit, V_region, W_nil, W_cons, effOp2, KN_seq, KN_block, KN_back, KXr_nil, KXe_nil, KXe_seq, KXe_block, KXe_back, QE, effOp, effPure, pureV, binV, ofC, strip, lkT, lkH, ISt.app, opI, gO, gB, allB, gval, wrapG, dstOK, setD, clean, conv, conv0, Op.operands, reduceIte, reduceCtorEq, Nat.reduceLT, Nat.reduceEqDiff, true_and, and_true, and_self, implies_true, List.map_cons, List.map_nil, List.nil_append, List.cons_append, hN, FinH, resA, resV, SLe, SLe0, convTm, convHp, convB, hwk]
        exact ⟨k + 1, id, ⟨by omega, hn⟩, by simp only []; omega, by simp [SLe, SLe0, convTm, convHp, convB, conv, conv0, convL, lkT, lkH, clean]⟩
    · have hke : k = 3 := by have := of_decide_eq_false h; omega
      subst hke
      have hn := firstN_next n1 n2
      simp only [V_seq, V_ret, V_exit, V_region, W_nil, W_cons, effOp2, KN_seq, KN_block, KN_back, KXr_nil, KXe_nil, KXe_seq, KXe_block, KXe_back, QE, effOp, effPure, pureV, binV, ofC, strip, lkT, lkH, ISt.app, opI, gO, gB, allB, gval, wrapG, dstOK, setD, clean, conv, conv0, Op.operands, reduceIte, reduceCtorEq, Nat.reduceSub, Nat.reduceLT, Nat.reduceEqDiff, true_and, and_true, and_self, implies_true, List.map_cons, List.map_nil, List.nil_append, List.cons_append, hN, FinH, resA, resV, SLe, SLe0, convTm, convHp, convB, hwi]
      exact ⟨i + 1, id, ⟨by omega, hn⟩, by simp only []; omega, by simp [SLe, SLe0, convTm, convHp, convB, conv, conv0, lkT, lkH, clean]⟩
  · have hie : i = L.length := by simp at h; omega
    subst hie
    have hF : flipF p L = none := n1
    have v1 : (flipF p L).isSome = false := by rw [hF]; rfl
    have v2 : (flipF p L).getD L = L := by rw [hF]; rfl
    simp only [V_seq, V_ret, V_exit, V_region, W_nil, W_cons, effOp2, KN_seq, KXr_nil, KXe_nil, KXe_seq, KXe_block, KXe_back, QE, effOp, effPure, pureV, ofC, strip, lkT, lkH, ISt.app, opI, gO, gB, allB, gval, wrapG, dstOK, setD, clean, conv, conv0, Op.operands, reduceIte, reduceCtorEq, Nat.reduceLT, Nat.reduceEqDiff, true_and, and_true, and_self, implies_true, List.map_cons, List.map_nil, List.nil_append, List.cons_append, hN, FinH, resA, resV, SLe, SLe0, convTm, convHp, convB, v1, v2]
    exact ⟨id, by simp [convL]⟩
def hs_impl_flip : HSpec := ⟨[true, false], fun xs hp => match xs, hp with | [.sl 2 ls, .ref 1000 0 n full], [(1000, .arr 3 ty es)] => (isPs ls) ∧ (isTs es) ∧ (ty = 31) ∧ (n = es.length) ∧ ((fun (p : List Pt) (L : List Tr) (full : Bool) => okPs p = true) (toPs ls) (toTs es) full) ∧ ((fun (p : List Pt) (L : List Tr) (full : Bool) => goodL p L) (toPs ls) (toTs es) full) ∧ ((fun (p : List Pt) (L : List Tr) (full : Bool) => L.length ≤ 1000000) (toPs ls) (toTs es) full) | _, _ => False, fun xs hp => match xs, hp with | [.sl 2 ls, .ref 1000 0 n full], [(1000, .arr 3 ty es)] => (fun (p : List Pt) (L : List Tr) (full : Bool) => (.bool (flipF p L).isSome : IV)) (toPs ls) (toTs es) full | _, _ => .junk, fun xs hp => match xs, hp with | [.sl 2 ls, .ref 1000 0 n full], [(1000, .arr 3 ty es)] => (fun (p : List Pt) (L : List Tr) (full : Bool) => ([(1000, .arr 3 31 (encTs ((flipF p L).getD L)))] : List (Nat × IBlk))) (toPs ls) (toTs es) full | _, _ => []⟩
theorem hk_impl_flip : ∀ args hp, hs_impl_flip.pre args hp → HCall Try.prog 24 args (sm hp) (hs_impl_flip.val args hp) (sm (hs_impl_flip.hval args hp)) := by
  intro args hp h
  unfold hs_impl_flip at h ⊢; simp only at h ⊢; split at h
  · obtain ⟨h0, h1, rfl, rfl, h2, h3, h4⟩ := h; obtain ⟨l, rfl⟩ := isP_ex h0; obtain ⟨m, rfl⟩ := isT_ex h1; rw [toPs_enc, toTs_enc] at *; rw [len_encTs]; exact c_impl_flip l m _ h2 h3 h4
  · exact h.elim
theorem en_impl_flip : Enters Try.prog 24 := enters_of Try.func24 (by kernel_rfl) rfl

end Go.Proofs.Yteaanfpkakaaoaa
