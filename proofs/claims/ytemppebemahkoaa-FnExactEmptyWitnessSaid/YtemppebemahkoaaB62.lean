/- The search for the first three half-planes whose region is empty: the closure of impl.EmptyWitness. -/
import Derived.Test.YtemppebemahkoaaB61
set_option linter.unusedVariables false
set_option linter.unusedSimpArgs false
set_option maxHeartbeats 16000000
set_option maxRecDepth 100000
namespace Go.Proofs.Ytemppebemahkoaa
open Go Go.Ideal Go.Pl Go.Sort

/-- What is in the list when the search ends. -/
def ewR (l : List Tr) (d : Nat) (cur : List Nat) (a : Nat) : List Nat := (dfs (empB l) l.length d cur a).getD cur
def ewB (l : List Tr) (d : Nat) (cur : List Nat) (a : Nat) : Bool := (dfs (empB l) l.length d cur a).isSome
def g_ew : List (Nat × PSpec) := [(86, sp_impl_empty)]
theorem gok_ew : GOK Try.prog g_ew := gok_cons gk_impl_empty en_impl_empty (gok0)
theorem lk_ew_impl_empty : lkG g_ew 86 = sp_impl_empty := rfl
def h_ew : List (Nat × HSpec) := []
theorem hok_ew : HOK Try.prog h_ew := hok0
abbrev ewFn : IV := .clo 85 [.ptr 1000 0, .ptr 1001 0, .ptr 1002 0]
def ewHp (l : List Tr) (cur : List Nat) : List (Nat × IBlk) := [(1000, .box 25 [.ref 1003 0 cur.length true]), (1001, .box 43 [.sl 3 (encTs l)]), (1002, .box 101 [ewFn]), (1003, .arr 1 3 (encN cur))]
def ewHv (l : List Tr) (cur : List Nat) : List (Nat × IBlk) := [(0, .arr 1 3 (encN cur)), (1000, .box 25 [.ref 0 0 cur.length true]), (1001, .box 43 [.sl 3 (encTs l)]), (1002, .box 101 [ewFn])]
def hsEw (m : Nat) : HSpec := ⟨[false, false, false, false, false],
  fun xs hp => match xs, hp with
    | [.num .i64 sz, .num .i64 a, .ptr 1000 0, .ptr 1001 0, .ptr 1002 0], [(1000, .box ty1 [.ref 1003 0 no true]), (1001, .box ty2 [.sl 3 les]), (1002, .box ty3 [.clo f [.ptr 1000 0, .ptr 1001 0, .ptr 1002 0]]), (1003, .arr 1 ty4 os)] =>
      isTs les ∧ isNs os ∧ ty1 = 25 ∧ ty2 = 43 ∧ ty3 = 101 ∧ ty4 = 3 ∧ f = 85 ∧ no = os.length ∧ (os.length : Int) ≤ sz ∧ sz ≤ 3 ∧ sz.toNat - os.length < m ∧ 0 ≤ a ∧ a ≤ 1000 ∧ (toTs les).length ≤ 8 ∧ (∀ k ∈ toTs les, smH k) ∧ (∀ x ∈ toNs os, x < (toTs les).length)
    | _, _ => False,
  fun xs hp => match xs, hp with
    | [.num .i64 sz, .num .i64 a, .ptr 1000 0, .ptr 1001 0, .ptr 1002 0], [(1000, .box ty1 [.ref 1003 0 no true]), (1001, .box ty2 [.sl 3 les]), (1002, .box ty3 [.clo f [.ptr 1000 0, .ptr 1001 0, .ptr 1002 0]]), (1003, .arr 1 ty4 os)] => .bool (ewB (toTs les) (sz.toNat - os.length) (toNs os) a.toNat)
    | _, _ => .junk,
  fun xs hp => match xs, hp with
    | [.num .i64 sz, .num .i64 a, .ptr 1000 0, .ptr 1001 0, .ptr 1002 0], [(1000, .box ty1 [.ref 1003 0 no true]), (1001, .box ty2 [.sl 3 les]), (1002, .box ty3 [.clo f [.ptr 1000 0, .ptr 1001 0, .ptr 1002 0]]), (1003, .arr 1 ty4 os)] =>
      [(0, .arr 1 3 (encN (ewR (toTs les) (sz.toNat - os.length) (toNs os) a.toNat))), (1000, .box 25 [.ref 0 0 (ewR (toTs les) (sz.toNat - os.length) (toNs os) a.toNat).length true]), (1001, .box 43 [.sl 3 les]), (1002, .box 101 [ewFn])]
    | _, _ => []⟩
theorem hsEw_mask (m : Nat) : (hsEw m).mask = [false, false, false, false, false] := rfl
theorem hsEw_pre (m no f ty1 ty2 ty3 ty4 : Nat) (sz a : Int) (les os : List IV) : (hsEw m).pre [.num .i64 sz, .num .i64 a, .ptr 1000 0, .ptr 1001 0, .ptr 1002 0] [(1000, .box ty1 [.ref 1003 0 no true]), (1001, .box ty2 [.sl 3 les]), (1002, .box ty3 [.clo f [.ptr 1000 0, .ptr 1001 0, .ptr 1002 0]]), (1003, .arr 1 ty4 os)] =
    (isTs les ∧ isNs os ∧ ty1 = 25 ∧ ty2 = 43 ∧ ty3 = 101 ∧ ty4 = 3 ∧ f = 85 ∧ no = os.length ∧ (os.length : Int) ≤ sz ∧ sz ≤ 3 ∧ sz.toNat - os.length < m ∧ 0 ≤ a ∧ a ≤ 1000 ∧ (toTs les).length ≤ 8 ∧ (∀ k ∈ toTs les, smH k) ∧ (∀ x ∈ toNs os, x < (toTs les).length)) := rfl
theorem hsEw_val (m no f ty1 ty2 ty3 ty4 : Nat) (sz a : Int) (les os : List IV) : (hsEw m).val [.num .i64 sz, .num .i64 a, .ptr 1000 0, .ptr 1001 0, .ptr 1002 0] [(1000, .box ty1 [.ref 1003 0 no true]), (1001, .box ty2 [.sl 3 les]), (1002, .box ty3 [.clo f [.ptr 1000 0, .ptr 1001 0, .ptr 1002 0]]), (1003, .arr 1 ty4 os)] = .bool (ewB (toTs les) (sz.toNat - os.length) (toNs os) a.toNat) := rfl
theorem hsEw_hval (m no f ty1 ty2 ty3 ty4 : Nat) (sz a : Int) (les os : List IV) : (hsEw m).hval [.num .i64 sz, .num .i64 a, .ptr 1000 0, .ptr 1001 0, .ptr 1002 0] [(1000, .box ty1 [.ref 1003 0 no true]), (1001, .box ty2 [.sl 3 les]), (1002, .box ty3 [.clo f [.ptr 1000 0, .ptr 1001 0, .ptr 1002 0]]), (1003, .arr 1 ty4 os)] =
    [(0, .arr 1 3 (encN (ewR (toTs les) (sz.toNat - os.length) (toNs os) a.toNat))), (1000, .box 25 [.ref 0 0 (ewR (toTs les) (sz.toNat - os.length) (toNs os) a.toNat).length true]), (1001, .box 43 [.sl 3 les]), (1002, .box 101 [.clo 85 [.ptr 1000 0, .ptr 1001 0, .ptr 1002 0]])] := rfl
theorem firstN_hit {β : Type} {f : Nat → Option β} {m : Nat} {b : β} (h : firstN f m = none) (hb : f m = some b) : ∀ {n : Nat}, m < n → firstN f n = some b
  | n + 1, hn => by
    rw [firstN]
    rcases Nat.lt_or_ge m n with c | c
    · rw [firstN_hit h hb c]
    · rw [show n = m by omega, h]; exact hb
theorem en_ew : Enters Try.prog 85 := enters_of Try.func85 (by kernel_rfl) rfl
theorem ew_call : ∀ (m : Nat) (sz a : Nat) (l : List Tr) (cur : List Nat), sz - cur.length < m → cur.length ≤ sz → sz ≤ 3 → a ≤ 1000 → l.length ≤ 8 → (∀ k ∈ l, smH k) → (∀ x ∈ cur, x < l.length) →
    HCall Try.prog 85 [.num .i64 sz, .num .i64 a, .ptr 1000 0, .ptr 1001 0, .ptr 1002 0] (sm (ewHp l cur)) (.bool (ewB l (sz - cur.length) cur a)) (sm (ewHv l (ewR l (sz - cur.length) cur a))) := by
  intro m
  induction m with
  | zero => intro sz a l cur h; omega
  | succ m ih =>
    intro sz a l cur hm hsz h3 ha hl hs hc
    have hH : HOK Try.prog ((85, hsEw m) :: h_ew) := by
      refine hok_cons (fun args hp h => ?_) en_ew hok_ew
      unfold hsEw at h ⊢; simp only at h ⊢; split at h
      · obtain ⟨k1, ⟨O', rfl⟩, rfl, rfl, rfl, rfl, rfl, rfl, k2, k3, k4, k5, k6, k7, k8, k9⟩ := h
        obtain ⟨l', rfl⟩ := isT_ex k1
        rename_i _ _ sz' a'
        simp only [toNs_enc, toTs_enc, len_encN] at *
        obtain ⟨z, rfl⟩ : ∃ z : Nat, sz' = z := ⟨sz'.toNat, by omega⟩
        obtain ⟨c, rfl⟩ : ∃ c : Nat, a' = c := ⟨a'.toNat, by omega⟩
        simp only [Int.toNat_natCast] at *
        exact ih z c l' O' k4 (by omega) (by omega) (by omega) k7 k8 k9
      · exact h.elim
    refine hcall_V (G := g_ew) (H := (85, hsEw m) :: h_ew) [] tabOK mixed gok_ew hH Try.func85 rfl Try.ntmps85 Try.results85 rfl (by kernel_rfl) fun F hN hlen => ?_
    simp only [sm, ewHp, ewHv]
    have eC := len_encN cur
    rcases Nat.eq_or_lt_of_le hsz with h0 | h0
    · have z1 : ewR l (sz - cur.length) cur a = cur := by rw [ewR, h0, Nat.sub_self]; simp only [dfs]; cases empB l cur <;> rfl
      have z2 : ewB l (sz - cur.length) cur a = empB l cur := by rw [ewB, h0, Nat.sub_self]; simp only [dfs]; cases empB l cur <;> rfl
      have d0 : (((cur.length : Nat) : Int) == ((sz : Nat) : Int)) = true := by rw [h0]; simp
      have en := encN_natI cur
      have hkn : lkHS h_ew 86 = none := rfl
      have tC := take_encN cur
      have hW1 : ∀ x ∈ natI cur, 0 ≤ x ∧ x < (l.length : Int) := by
        intro x hx
        obtain ⟨y, hy, rfl⟩ := List.mem_map.1 hx
        have := hc y hy
        exact ⟨by omega, by omega⟩
      have hW2 : (natI cur).length ≤ 3 := by rw [natI, List.length_map]; omega
      have hK := selL_natI l cur
      have hemp : empB l cur = (cornP (selN l cur)).isEmpty := rfl
      have ti : toIs (encI (natI cur)) = natI cur := toIs_enc _
      rw [hemp] at z2
      have tk : (encI (natI cur)).take cur.length = encI (natI cur) := tC
      have eC2 : (encI (natI cur)).length = cur.length := eC
      simp only [V_seq, V_ret, V_region, V_cond, brW_true, W_nil, W_cons, effOp2, KN_seq, KXr_nil, KXr_seq, QE, asB, effOp, effPure, effCall, giveUp, hasAll, Option.isSome_some, pureV, binV, partV, loadV, lenV, ofC, strip, lkT, lkH, ISt.app, opI, gO, gB, allB, gval, wrapG, dstOK, setD, lendV, lendP, lent, lentP, idsV, idsL, lkHS, flat, clean, callArgs, callFn, allLent, enumT, conv, conv0, Op.operands, Call.operands, List.append_toArray, reduceIte, reduceCtorEq, cond_true, Bool.or_false, Bool.not_true, Nat.reduceAdd, Nat.reduceLT, Nat.reduceLeDiff, Nat.reduceEqDiff, Nat.zero_add, ne_eq, not_false_eq_true, true_and, and_true, and_self, false_implies, implies_true, forall_const, List.map_cons, List.map_nil, List.nil_append, List.cons_append, List.append_nil, List.getD_cons_zero, List.length_cons, List.length_nil, List.take_succ_cons, List.take_nil, List.drop_zero, ex_clo, or_self, tab25, tab43, hN, isTs_enc, toTs_enc, isIs_enc, FinH, resA, resV, SLe, SLe0, convTm, convHp, convB, Option.isSome_some, List.nodup_nil, List.nodup_cons, List.not_mem_nil, List.mem_cons, or_false, lk_ew_impl_empty, sp_impl_empty, ewFn, z1, z2, eC2, d0, hkn, tk, ti, en, hK, isIs_enc]
      refine ⟨?_, fun z => if z = 0 then 1003 else z, ?_⟩
      · exact ⟨Nat.le_refl _, hs, hW1, hW2⟩
      · simp [convL, conv, conv0]
        intro id h1 _ h3; omega
    · have d0 : (((cur.length : Nat) : Int) == ((sz : Nat) : Int)) = false := by rw [beq_eq_false_iff_ne]; omega
      have el := len_encTs l
      have hkn : lkHS h_ew 86 = none := rfl
      obtain ⟨d, hd⟩ : ∃ d, sz - cur.length = d + 1 := ⟨sz - cur.length - 1, by omega⟩
      obtain ⟨g, hg⟩ : ∃ g : Nat → Option (List Nat), (fun k => dfs (empB l) l.length d (cur ++ [k]) (k + 1)) = g := ⟨_, rfl⟩
      have hdf : dfs (empB l) l.length (sz - cur.length) cur a = firstN (fun j => g (a + j)) (l.length - a) := by rw [hd, dfs, fromN, ← hg]
      simp only [V_seq, V_skip, V_block, V_region, V_cond, brW_false, W_nil, W_cons, effOp2, KN_seq, asB, effOp, effPure, pureV, binV, partV, loadV, lenV, ofC, strip, lkT, lkH, ISt.app, opI, gO, gB, allB, gval, wrapG, dstOK, setD, enumT, Op.operands, Call.operands, List.append_toArray, reduceIte, reduceCtorEq, Nat.reduceAdd, Nat.reduceLT, Nat.reduceLeDiff, Nat.reduceEqDiff, Nat.zero_add, ne_eq, not_false_eq_true, true_and, and_self, implies_true, List.nil_append, List.cons_append, List.getD_cons_zero, List.length_cons, List.length_nil, List.take_succ_cons, List.take_nil, List.drop_zero, tab25, hN, ewFn, d0]
      refine V_loop (α := Nat) ⟨tabOK, mixed, gok_ew, hH⟩ (by kernel_rfl) (fun i => a ≤ i ∧ i ≤ max a l.length ∧ firstN (fun j => g (a + j)) (i - a) = none) (fun i => ⟨[(8, .num .i64 i), (0, .num .i64 sz), (2, .ptr 1000 0), (3, .ptr 1001 0), (4, .ptr 1002 0)], [(1000, some (.box 25 [.ref 16 0 cur.length true])), (1001, some (.box 43 [.sl 3 (encTs l)])), (1002, some (.box 101 [ewFn])), (16, some (.arr 1 3 (encN cur)))]⟩) (fun i => l.length - i) a (fun z => if z = 16 then 1003 else z) ⟨Nat.le_refl _, by omega, by rw [Nat.sub_self]; rfl⟩ (by simp [SLe, SLe0, convTm, convHp, convB, conv, conv0, convL, lkT, lkH, clean]; intro id h1 _ h3; omega) ?_
      rintro i ⟨hi1, hi2, hno⟩
      simp only [V_seq, V_region, V_cond, W_nil, W_cons, effOp2, KN_seq, asB, effOp, effPure, pureV, binV, partV, loadV, lenV, strip, lkT, lkH, ISt.app, opI, gO, gB, allB, gval, wrapG, dstOK, setD, Op.operands, Call.operands, List.append_toArray, reduceIte, reduceCtorEq, Nat.reduceLT, Nat.reduceLeDiff, Nat.reduceEqDiff, Nat.zero_add, ne_eq, not_false_eq_true, true_and, and_self, implies_true, List.nil_append, List.cons_append, List.getD_cons_zero, List.length_cons, List.length_nil, List.take_succ_cons, List.take_nil, List.drop_zero, tab43, hN, ewFn, el]
      refine brW_some (fun h => ?_) (fun h => ?_)
      · have hi : i < l.length := by have := of_decide_eq_true h; omega
        have hw := wr_succ hi (by rw [maxLen_eq]; omega)
        have tC := take_encN cur
        have a1 : encN cur ++ [.num .i64 ((i : Nat) : Int)] = encN (cur ++ [i]) := encN_app cur [i]
        have a2 : (encN (cur ++ [i])).length = cur.length + 1 := by rw [len_encN (cur ++ [i]), List.length_append]; rfl
        have a3 : (cur ++ [i]).length = cur.length + 1 := by rw [List.length_append]; rfl
        have a4 : (encN (cur ++ [i])).take (cur.length + 1) = encN (cur ++ [i]) := List.take_of_length_le (by omega)
        have hdd : sz - (cur.length + 1) = d := by omega
        have hgi : g i = dfs (empB l) l.length d (cur ++ [i]) (i + 1) := by rw [← hg]
        have c1 : ∀ x ∈ cur ++ [i], x < l.length := fun x hx => by
          rcases List.mem_append.1 hx with hx | hx
          · exact hc x hx
          · rw [List.mem_singleton.1 hx]; exact hi
        cases hr : dfs (empB l) l.length d (cur ++ [i]) (i + 1) with
        | some w =>
          have r1 : ewB l d (cur ++ [i]) (i + 1) = true := by rw [ewB, hr]; rfl
          have r2 : ewR l d (cur ++ [i]) (i + 1) = w := by rw [ewR, hr]; rfl
          have ew := len_encN w
          have tw := take_encN w
          have hf := firstN_hit (f := fun j => g (a + j)) hno (show g (a + (i - a)) = some w by rw [show a + (i - a) = i by omega, hgi, hr]) (show i - a < l.length - a by omega)
          have v1 : ewB l (sz - cur.length) cur a = true := by rw [ewB, hdf, hf]; rfl
          have v2 : ewR l (sz - cur.length) cur a = w := by rw [ewR, hdf, hf]; rfl
          simp only [V_seq, V_skip, V_ret, V_block, V_region, V_cond, brW_true, W_nil, W_cons, effOp2, KN_seq, KXr_nil, KXr_seq, KXr_block, KXr_back, QE, asB, effOp, effPure, effNew, effBuildSlice, effFrz, frz, tmpsOf, effStore, effAppend, effZeros, Option.isSome_some, skipE, pureV, storeV, srcV, refId, binV, partV, loadV, over, solid, IV.cells, ofC, strip, lkT, lkH, ISt.app, opI, gO, gB, allB, gval, wrapG, dstOK, setD, mentTm, mentHp, IV.ment, IV.mentL, partsL, eltsI, eltI, oneI, noId', idsV, idsL, lkHS, clean, callArgs, callFn, enumT, conv, conv0, convL, IBlk.shape, Op.operands, reduceIte, reduceCtorEq, cond_true, cond_false, Bool.or_false, Bool.or_true, Bool.and_true, Bool.and_false, Nat.reduceAdd, Nat.reduceSub, Nat.reduceMul, Nat.reduceLT, Nat.reduceLeDiff, Nat.reduceEqDiff, Nat.reduceBEq, Nat.add_zero, Nat.zero_add, ne_eq, not_false_eq_true, beq_self_eq_true, true_and, and_true, and_false, and_self, false_implies, implies_true, List.map_cons, List.map_nil, List.nil_append, List.cons_append, List.append_nil, List.all_cons, List.all_nil, Option.some.injEq, Option.map_some, Option.map_none, List.getD_cons_zero, List.getD_cons_succ, List.length_cons, List.length_nil, List.take_succ_cons, List.take_zero, List.take_nil, List.drop_succ_cons, List.drop_zero, List.drop_nil, ex_clo, or_self, Bool.true_eq_false, Bool.false_eq_true, tab3, tab25, tab101, hN, Int.toNat_natCast, isTs_enc, toTs_enc, FinH, resA, resV, SLe, SLe0, convTm, convHp, convB, sm, effH, mkHC0, mkHC1, lendM, lentM, lentI, allHere, addIds, idsB, flatIds, reach, posn, renV, renL, renB, renH, numB, subHp, fwd, bk, bwd, nones, keyOK, noSl, noSlL, flatBs, List.contains, List.elem, Option.isSome_some, List.nodup_nil, List.nodup_cons, List.not_mem_nil, List.mem_cons, or_false, Option.getD_some, effH, mkHC0, mkHC1, lendM, lentM, lentI, allHere, addIds, idsB, flatIds, reach, posn, renV, renL, renB, renH, numB, subHp, fwd, bk, bwd, nones, keyOK, noSl, noSlL, flatBs, List.contains, List.elem, Option.isSome_some, List.nodup_nil, List.nodup_cons, List.not_mem_nil, List.mem_cons, or_false, Option.getD_some, hsEw_mask, hsEw_pre, hsEw_val, hsEw_hval, isNs_enc, toNs_enc, isTs_enc, toTs_enc, eC, hw, tC, a1, a2, a4, hdd, r1, r2, ew, tw, v1, v2, Int.toNat_natCast]
          refine ⟨⟨Nat.le_refl _, by omega⟩, ⟨by omega, by omega, by omega, by omega, by omega, hl, hs, c1⟩, fun z => if z = 0 then 2496 else z, ?_⟩
          simp [convL, conv, conv0, ew, tw]
          intro id h1 _ h3; omega
        | none =>
          have r1 : ewB l d (cur ++ [i]) (i + 1) = false := by rw [ewB, hr]; rfl
          have r2 : ewR l d (cur ++ [i]) (i + 1) = cur ++ [i] := by rw [ewR, hr]; rfl
          have w1 : IntKind.i64.wrap (((cur.length + 1 : Nat) : Int) - 1) = ((cur.length : Nat) : Int) := by rw [wr (by omega) (by omega)]; omega
          simp only [V_seq, V_skip, V_block, V_region, V_cond, brW_false, W_nil, W_cons, effOp2, KN_seq, KN_block, KN_back, asB, effOp, effPure, effNew, effBuildSlice, effFrz, frz, tmpsOf, effStore, effAppend, effZeros, Option.isSome_some, skipE, pureV, storeV, srcV, refId, binV, partV, loadV, sliceV, lenV, over, solid, IV.cells, ofC, strip, lkT, lkH, ISt.app, opI, gO, gB, allB, gval, wrapG, dstOK, setD, mentTm, mentHp, IV.ment, IV.mentL, partsL, eltsI, eltI, oneI, noId', idsV, idsL, lkHS, clean, callArgs, callFn, enumT, conv, conv0, convL, IBlk.shape, Op.operands, Call.operands, List.append_toArray, Array.append_empty, Option.toArray_none, Option.toArray_some, reduceIte, reduceCtorEq, cond_true, cond_false, Bool.or_false, Bool.or_true, Bool.and_true, Bool.and_false, Nat.reduceAdd, Nat.reduceSub, Nat.reduceMul, Nat.reduceLT, Nat.reduceLeDiff, Nat.reduceEqDiff, Nat.reduceBEq, Nat.add_zero, Nat.zero_add, ne_eq, not_false_eq_true, beq_self_eq_true, true_and, and_true, and_false, and_self, implies_true, forall_const, List.map_cons, List.map_nil, List.nil_append, List.cons_append, List.append_nil, List.all_cons, List.all_nil, Option.some.injEq, Option.map_some, Option.map_none, List.getD_cons_zero, List.getD_cons_succ, List.length_cons, List.length_nil, List.take_succ_cons, List.take_zero, List.take_nil, List.drop_succ_cons, List.drop_zero, List.drop_nil, ex_clo, or_self, Bool.true_eq_false, Bool.false_eq_true, tab3, tab25, tab101, hN, Int.toNat_natCast, isTs_enc, toTs_enc, SLe0, convTm, convHp, convB, sm, effH, mkHC0, mkHC1, lendM, lentM, lentI, allHere, addIds, idsB, flatIds, reach, posn, renV, renL, renB, renH, numB, subHp, fwd, bk, bwd, nones, keyOK, noSl, noSlL, flatBs, List.contains, List.elem, Option.isSome_some, List.nodup_nil, List.nodup_cons, List.not_mem_nil, List.mem_cons, or_false, Option.getD_some, effH, mkHC0, mkHC1, lendM, lentM, lentI, allHere, addIds, idsB, flatIds, reach, posn, renV, renL, renB, renH, numB, subHp, fwd, bk, bwd, nones, keyOK, noSl, noSlL, flatBs, List.contains, List.elem, Option.isSome_some, List.nodup_nil, List.nodup_cons, List.not_mem_nil, List.mem_cons, or_false, Option.getD_some, hsEw_mask, hsEw_pre, hsEw_val, hsEw_hval, isNs_enc, toNs_enc, isTs_enc, toTs_enc, eC, hw, tC, a1, a2, a3, a4, hdd, r1, r2, w1, Int.toNat_natCast]
          have a5 : (encN (cur ++ [i])).take cur.length = encN cur := by rw [encN_take, List.take_left]
          have hn2 : firstN (fun j => g (a + j)) (i + 1 - a) = none := by
            rw [show i + 1 - a = (i - a) + 1 by omega, firstN, hno]
            show g (a + (i - a)) = none
            rw [show a + (i - a) = i by omega, hgi, hr]
          refine ⟨⟨Nat.le_refl _, by omega⟩, ⟨by omega, by omega, by omega, by omega, by omega, hl, hs, c1⟩, ⟨by omega, by omega⟩, i + 1, fun z => if z = 16 then 2496 else z, ⟨by omega, by omega, hn2⟩, by simp only []; omega, ?_⟩
          simp [SLe, SLe0, convTm, convHp, convB, conv, conv0, convL, lkT, lkH, clean, eC, a5]
          intro id h1 _ h3; omega
      · have hi : l.length ≤ i := by have := of_decide_eq_false h; omega
        have hdn : dfs (empB l) l.length (sz - cur.length) cur a = none := by
          rw [hdf]
          by_cases ha2 : a ≤ l.length
          · rw [show l.length - a = i - a by omega]; exact hno
          · rw [show l.length - a = 0 by omega]; rfl
        have v1 : ewB l (sz - cur.length) cur a = false := by rw [ewB, hdn]; rfl
        have v2 : ewR l (sz - cur.length) cur a = cur := by rw [ewR, hdn]; rfl
        simp only [V_seq, V_ret, V_exit, V_region, W_nil, W_cons, effOp2, KN_seq, KXr_nil, KXe_nil, KXe_seq, KXe_block, KXe_back, QE, effOp, effPure, pureV, ofC, strip, lkT, lkH, ISt.app, opI, gO, gB, allB, gval, wrapG, dstOK, setD, clean, conv, conv0, Op.operands, reduceIte, reduceCtorEq, Nat.reduceLT, Nat.reduceEqDiff, not_false_eq_true, true_and, and_true, and_self, false_implies, implies_true, List.map_cons, List.map_nil, List.nil_append, List.cons_append, hN, FinH, resA, resV, SLe, SLe0, convTm, convHp, convB, List.nodup_nil, List.nodup_cons, List.not_mem_nil, List.mem_cons, or_false, v1, v2]
        refine ⟨fun z => if z = 0 then 16 else z, ?_⟩
        simp [convL, conv, conv0, eC, take_encN]
        intro id h1 _ h3; omega
def g_impl_EmptyWitness_1 : List (Nat × PSpec) := []
theorem gok_impl_EmptyWitness_1 : GOK Try.prog g_impl_EmptyWitness_1 := gok0
def h_impl_EmptyWitness_1 : List (Nat × HSpec) := []
theorem hok_impl_EmptyWitness_1 : HOK Try.prog h_impl_EmptyWitness_1 := hok0
theorem c_impl_EmptyWitness_1 (sz : Nat) (a : Nat) (l : List Tr) (cur : List Nat) (hsz : cur.length ≤ sz) (h3 : sz ≤ 3) (ha : a ≤ 1000) (hl : l.length ≤ 8) (hs : ∀ k ∈ l, smH k) (hc : ∀ x ∈ cur, x < l.length) : HCall Try.prog 85 [.num .i64 sz, .num .i64 a, .ptr 1000 0, .ptr 1001 0, .ptr 1002 0] (sm (ewHp l cur)) (.bool (ewB l (sz - cur.length) cur a)) (sm (ewHv l (ewR l (sz - cur.length) cur a))) := by
  exact ew_call _ sz a l cur (Nat.lt_succ_self _) hsz h3 ha hl hs hc
def hs_impl_EmptyWitness_1 : HSpec := ⟨[false, false, false, false, false], fun xs hp => match xs, hp with | [.num .i64 szz, .num .i64 aa, .ptr 1000 0, .ptr 1001 0, .ptr 1002 0], [(1000, .box ty1 [.ref 1003 0 no true]), (1001, .box ty2 [.sl 3 les]), (1002, .box ty3 [.clo f [.ptr 1000 0, .ptr 1001 0, .ptr 1002 0]]), (1003, .arr 1 ty4 os)] => (0 ≤ szz) ∧ (0 ≤ aa) ∧ (isTs les) ∧ (isNs os) ∧ (ty1 = 25) ∧ (ty2 = 43) ∧ (ty3 = 101) ∧ (ty4 = 3) ∧ (f = 85) ∧ (no = os.length) ∧ ((fun (sz : Nat) (a : Nat) (l : List Tr) (cur : List Nat) => cur.length ≤ sz) szz.toNat aa.toNat (toTs les) (toNs os)) ∧ ((fun (sz : Nat) (a : Nat) (l : List Tr) (cur : List Nat) => sz ≤ 3) szz.toNat aa.toNat (toTs les) (toNs os)) ∧ ((fun (sz : Nat) (a : Nat) (l : List Tr) (cur : List Nat) => a ≤ 1000) szz.toNat aa.toNat (toTs les) (toNs os)) ∧ ((fun (sz : Nat) (a : Nat) (l : List Tr) (cur : List Nat) => l.length ≤ 8) szz.toNat aa.toNat (toTs les) (toNs os)) ∧ ((fun (sz : Nat) (a : Nat) (l : List Tr) (cur : List Nat) => ∀ k ∈ l, smH k) szz.toNat aa.toNat (toTs les) (toNs os)) ∧ ((fun (sz : Nat) (a : Nat) (l : List Tr) (cur : List Nat) => ∀ x ∈ cur, x < l.length) szz.toNat aa.toNat (toTs les) (toNs os)) | _, _ => False, fun xs hp => match xs, hp with | [.num .i64 szz, .num .i64 aa, .ptr 1000 0, .ptr 1001 0, .ptr 1002 0], [(1000, .box ty1 [.ref 1003 0 no true]), (1001, .box ty2 [.sl 3 les]), (1002, .box ty3 [.clo f [.ptr 1000 0, .ptr 1001 0, .ptr 1002 0]]), (1003, .arr 1 ty4 os)] => (fun (sz : Nat) (a : Nat) (l : List Tr) (cur : List Nat) => (.bool (ewB l (sz - cur.length) cur a) : IV)) szz.toNat aa.toNat (toTs les) (toNs os) | _, _ => .junk, fun xs hp => match xs, hp with | [.num .i64 szz, .num .i64 aa, .ptr 1000 0, .ptr 1001 0, .ptr 1002 0], [(1000, .box ty1 [.ref 1003 0 no true]), (1001, .box ty2 [.sl 3 les]), (1002, .box ty3 [.clo f [.ptr 1000 0, .ptr 1001 0, .ptr 1002 0]]), (1003, .arr 1 ty4 os)] => (fun (sz : Nat) (a : Nat) (l : List Tr) (cur : List Nat) => (ewHv l (ewR l (sz - cur.length) cur a) : List (Nat × IBlk))) szz.toNat aa.toNat (toTs les) (toNs os) | _, _ => []⟩
theorem hk_impl_EmptyWitness_1 : ∀ args hp, hs_impl_EmptyWitness_1.pre args hp → HCall Try.prog 85 args (sm hp) (hs_impl_EmptyWitness_1.val args hp) (sm (hs_impl_EmptyWitness_1.hval args hp)) := by
  intro args hp h
  unfold hs_impl_EmptyWitness_1 at h ⊢; simp only at h ⊢; split at h
  · obtain ⟨q1, q2, k1, ⟨O', rfl⟩, rfl, rfl, rfl, rfl, rfl, rfl, k3, k4, k5, k6, k7, k8⟩ := h; obtain ⟨l', rfl⟩ := isT_ex k1; obtain ⟨z, rfl⟩ := Int.eq_ofNat_of_zero_le q1; obtain ⟨c, rfl⟩ := Int.eq_ofNat_of_zero_le q2; simp only [toNs_enc, toTs_enc, len_encN, Int.toNat_natCast] at *; exact ew_call _ _ _ _ _ (Nat.lt_succ_self _) k3 k4 k5 k6 k7 k8
  · exact h.elim
theorem en_impl_EmptyWitness_1 : Enters Try.prog 85 := enters_of Try.func85 (by kernel_rfl) rfl

end Go.Proofs.Ytemppebemahkoaa
