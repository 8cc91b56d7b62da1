/- Contracts: Delaunay triangles; the exact law on them. -/
import Derived.Test.YtbbmeabfmjkldaaBS
import Derived.Test.YtbbmeabfmjkldaaBI
import Derived.Test.YtbbmeabfmjkldaaPl10
set_option linter.unusedVariables false
set_option linter.unusedSimpArgs false
set_option maxHeartbeats 1600000
set_option maxRecDepth 100000
namespace Go.Proofs.Ytbbmeabfmjkldaa
open Go Go.Ideal Go.Pl Go.Sort

theorem lt_stepD {P : Nat → Prop} {k : Nat} (h : ∀ c, c < k → P c) (h2 : P k) : ∀ c, c < k + 1 → P c := fun c hc => by
  rcases Nat.lt_or_ge c k with q | q
  · exact h c q
  · rw [show c = k by omega]; exact h2

/-- The points of a triangle. -/
def triA (l : List Pt) (t : Tr) : Pt := pAt l t.1.toNat
def triB (l : List Pt) (t : Tr) : Pt := pAt l t.2.1.toNat
def triC (l : List Pt) (t : Tr) : Pt := pAt l t.2.2.toNat
/-- Are the indices those of points? -/
def idxOK (n : Nat) (t : Tr) : Bool := inR t.1 0 ((n : Int) - 1) && inR t.2.1 0 ((n : Int) - 1) && inR t.2.2 0 ((n : Int) - 1)
theorem idx_facts {n : Nat} {t : Tr} (h : idxOK n t = true) : (0 ≤ t.1 ∧ t.1 < n) ∧ (0 ≤ t.2.1 ∧ t.2.1 < n) ∧ (0 ≤ t.2.2 ∧ t.2.2 < n) := by
  simp only [idxOK, inR, Bool.and_eq_true, decide_eq_true_eq] at h; omega
theorem nat_of {x : Int} (h : 0 ≤ x) : ∃ i : Nat, x = i := ⟨x.toNat, by omega⟩
def g_impl_Triangle_inIndex : List (Nat × PSpec) := [(60, sp_impl_within)]
theorem gok_impl_Triangle_inIndex : GOK Try.prog g_impl_Triangle_inIndex := gok_cons gk_impl_within en_impl_within (gok0)
theorem lk_impl_Triangle_inIndex_impl_within : lkG g_impl_Triangle_inIndex 60 = sp_impl_within := rfl
def h_impl_Triangle_inIndex : List (Nat × HSpec) := []
theorem hok_impl_Triangle_inIndex : HOK Try.prog h_impl_Triangle_inIndex := hok0
theorem c_impl_Triangle_inIndex (t : Tr) (k : Int) (hk : 0 ≤ k ∧ k ≤ 9223372036854775807) : ICall Try.prog 33 [encT t, .num .i64 k] (.bool (idxOK k.toNat t)) := by
  refine icall_V (G := g_impl_Triangle_inIndex) (H := []) [] tabOK mixed gok_impl_Triangle_inIndex hok_impl_Triangle_inIndex Try.func33 rfl Try.ntmps33 Try.results33 rfl (by kernel_rfl) fun F hN hlen => ?_
  obtain ⟨n, rfl⟩ := nat_of hk.1
  have w1 : IntKind.i64.wrap ((n : Int) - 1) = (n : Int) - 1 := wr (by omega) (by omega)
  have hv : idxOK n t = (inR t.1 0 ((n : Int) - 1) && inR t.2.1 0 ((n : Int) - 1) && inR t.2.2 0 ((n : Int) - 1)) := rfl
  cases h1 : inR t.1 0 ((n : Int) - 1) with
  | false =>
    rw [h1] at hv
    simp only [V_seq, V_ret, V_region, W_nil, W_cons, effOp2, KN_seq, KXr_nil, QE, effOp, effPure, effPick, effNew, effBox, effCall, giveUp, hasAll, skipE, pureV, pickV, binV, partV, loadV, faddrV, solid, IV.cells, ofC, strip, lkT, lkH, ISt.app, opI, gO, gB, allB, gval, wrapG, dstOK, setD, mentTm, mentHp, IV.ment, IV.mentL, oneI, lendV, lendP, lent, lentP, idsV, idsL, lkHS, flat, clean, callArgs, callFn, allLent, enumT, Gives, Ideal.Fin, conv, conv0, IBlk.shape, Op.operands, reduceIte, reduceCtorEq, cond_true, cond_false, Bool.or_false, Bool.or_true, Bool.and_true, Bool.false_and, Bool.not_true, Bool.not_false, Nat.reduceAdd, Nat.reduceLT, Nat.reduceLeDiff, Nat.reduceEqDiff, Nat.add_zero, Nat.zero_add, and_true, and_false, and_self, false_implies, implies_true, List.map_cons, List.map_nil, List.nil_append, List.cons_append, List.append_nil, List.all_cons, List.all_nil, Option.map_some, Option.bind_some, List.getElem?_cons_zero, List.getElem?_cons_succ, List.getD_cons_zero, List.getD_cons_succ, List.length_cons, List.length_nil, List.take_succ_cons, List.take_zero, List.take_nil, List.drop_succ_cons, List.drop_zero, ex_clo, bft, or_self, Bool.false_eq_true, tab3, tab32, hN, Int.toNat_natCast, encT, lk_impl_Triangle_inIndex_impl_within, sp_impl_within, w1, h1, hv]
  | true =>
    rw [h1] at hv
    cases h2 : inR t.2.1 0 ((n : Int) - 1) with
    | false =>
      rw [h2] at hv
      simp only [V_seq, V_ret, V_region, W_nil, W_cons, effOp2, KN_seq, KXr_nil, QE, effOp, effPure, effPick, effNew, effBox, effCall, giveUp, hasAll, skipE, pureV, pickV, binV, partV, loadV, faddrV, solid, IV.cells, ofC, strip, lkT, lkH, ISt.app, opI, gO, gB, allB, gval, wrapG, dstOK, setD, mentTm, mentHp, IV.ment, IV.mentL, oneI, lendV, lendP, lent, lentP, idsV, idsL, lkHS, flat, clean, callArgs, callFn, allLent, enumT, Gives, Ideal.Fin, conv, conv0, IBlk.shape, Op.operands, reduceIte, reduceCtorEq, cond_true, cond_false, Bool.or_false, Bool.or_true, Bool.and_true, Bool.and_false, Bool.false_and, Bool.not_true, Bool.not_false, Nat.reduceAdd, Nat.reduceLT, Nat.reduceLeDiff, Nat.reduceEqDiff, Nat.add_zero, Nat.zero_add, beq_self_eq_true, and_true, and_false, and_self, false_implies, implies_true, List.map_cons, List.map_nil, List.nil_append, List.cons_append, List.append_nil, List.all_cons, List.all_nil, Option.map_some, Option.bind_some, List.getElem?_cons_zero, List.getElem?_cons_succ, List.getD_cons_zero, List.getD_cons_succ, List.length_cons, List.length_nil, List.take_succ_cons, List.take_zero, List.take_nil, List.drop_succ_cons, List.drop_zero, ex_clo, bft, or_self, Bool.true_eq_false, Bool.false_eq_true, tab3, tab32, hN, Int.toNat_natCast, encT, lk_impl_Triangle_inIndex_impl_within, sp_impl_within, w1, h1, h2, hv]
    | true =>
      rw [h2] at hv
      simp only [V_seq, V_ret, V_region, W_nil, W_cons, effOp2, KN_seq, KXr_nil, QE, effOp, effPure, effPick, effNew, effBox, effCall, giveUp, hasAll, skipE, pureV, pickV, binV, partV, loadV, faddrV, solid, IV.cells, ofC, strip, lkT, lkH, ISt.app, opI, gO, gB, allB, gval, wrapG, dstOK, setD, mentTm, mentHp, IV.ment, IV.mentL, oneI, lendV, lendP, lent, lentP, idsV, idsL, lkHS, flat, clean, callArgs, callFn, allLent, enumT, Gives, Ideal.Fin, conv, conv0, IBlk.shape, Op.operands, reduceIte, reduceCtorEq, cond_true, Bool.or_false, Bool.and_true, Bool.true_and, Bool.not_true, Nat.reduceAdd, Nat.reduceLT, Nat.reduceLeDiff, Nat.reduceEqDiff, Nat.add_zero, Nat.zero_add, beq_self_eq_true, and_self, implies_true, List.map_cons, List.map_nil, List.nil_append, List.cons_append, List.append_nil, List.all_cons, List.all_nil, Option.map_some, Option.bind_some, List.getElem?_cons_zero, List.getElem?_cons_succ, List.getD_cons_zero, List.getD_cons_succ, List.length_cons, List.length_nil, List.take_succ_cons, List.take_zero, List.take_nil, List.drop_succ_cons, List.drop_zero, ex_clo, or_self, Bool.true_eq_false, tab3, tab32, hN, Int.toNat_natCast, encT, lk_impl_Triangle_inIndex_impl_within, sp_impl_within, w1, h1, h2, hv]
def sp_impl_Triangle_inIndex : PSpec := ⟨fun xs => match xs with | [.agg [.num .i64 t1, .num .i64 t2, .num .i64 t3], .num .i64 k] => ((fun (t : Tr) (k : Int) => 0 ≤ k ∧ k ≤ 9223372036854775807) (t1, t2, t3) k) | _ => False, fun xs => match xs with | [.agg [.num _ t1, .num _ t2, .num _ t3], .num _ k] => (fun (t : Tr) (k : Int) => .bool (idxOK k.toNat t)) (t1, t2, t3) k | _ => .junk, false⟩
theorem gk_impl_Triangle_inIndex : ∀ args, sp_impl_Triangle_inIndex.pre args → ICall Try.prog 33 args (sp_impl_Triangle_inIndex.val args) := by
  intro args h
  unfold sp_impl_Triangle_inIndex at h ⊢; simp only at h ⊢; split at h
  · have h0 := h
    simp only [toPs_enc] at *
    exact c_impl_Triangle_inIndex (_, _, _) _ h0
  · exact h.elim
theorem en_impl_Triangle_inIndex : Enters Try.prog 33 := enters_of Try.func33 (by kernel_rfl) rfl

def g_impl_Triangle_turn : List (Nat × PSpec) := [(41, sp_impl_turn)]
theorem gok_impl_Triangle_turn : GOK Try.prog g_impl_Triangle_turn := gok_cons gk_impl_turn en_impl_turn (gok0)
theorem lk_impl_Triangle_turn_impl_turn : lkG g_impl_Triangle_turn 41 = sp_impl_turn := rfl
def h_impl_Triangle_turn : List (Nat × HSpec) := []
theorem hok_impl_Triangle_turn : HOK Try.prog h_impl_Triangle_turn := hok0
theorem c_impl_Triangle_turn (t : Tr) (l : List Pt) (hi : idxOK l.length t = true) (hm : SmL l) (hsz : l.length ≤ 1000000) : ICall Try.prog 34 [encT t, .sl 2 (encPs l)] (.num .i64 (turn (triA l t) (triB l t) (triC l t))) := by
  refine icall_V (G := g_impl_Triangle_turn) (H := []) [(1, [(0, 15), (1, 15), (2, 15), (3, 15), (5, 15), (6, 15), (7, 15), (8, 15), (10, 15), (11, 15), (12, 15), (13, 15)])] tabOK mixed gok_impl_Triangle_turn hok_impl_Triangle_turn Try.func34 rfl Try.ntmps34 Try.results34 rfl (by kernel_rfl) fun F hN hlen => ?_
  obtain ⟨⟨a0, a1⟩, ⟨b0, b1⟩, ⟨c0, c1⟩⟩ := idx_facts hi
  obtain ⟨t1, t2, t3⟩ := t
  simp only [] at a0 a1 b0 b1 c0 c1
  obtain ⟨i, rfl⟩ := nat_of a0
  obtain ⟨j, rfl⟩ := nat_of b0
  obtain ⟨k, rfl⟩ := nat_of c0
  have el := len_encPs l
  have g1 := getD_encPs (l := l) (i := i) (by omega)
  have g2 := getD_encPs (l := l) (i := j) (by omega)
  have g3 := getD_encPs (l := l) (i := k) (by omega)
  have s1 := hm.at i
  have s2 := hm.at j
  have s3 := hm.at k
  have e1 : triA l ((i : Int), (j : Int), (k : Int)) = pAt l i := rfl
  have e2 : triB l ((i : Int), (j : Int), (k : Int)) = pAt l j := rfl
  have e3 : triC l ((i : Int), (j : Int), (k : Int)) = pAt l k := rfl
  rw [e1, e2, e3]
  simp only [V_seq, V_ret, V_region, V_draw, drawW, WS_nil, pairsOf, W_nil, W_cons, effOp2, effOp3, WI_nil, WI_cons, KN_seq, KXr_nil, QE, dynOK, indB, farB, freshB, freshK, freshK1, heapy, effOp, effPure, effNew, effBox, effCall, giveUp, hasAll, skipE, pureV, partV, eltV, loadV, faddrV, iaddrV, solid, IV.cells, ofC, strip, lkT, lkH, ISt.app, opI, gO, gB, allB, gval, wrapG, dstOK, setD, mentTm, mentHp, IV.ment, IV.mentL, oneI, lendV, lendP, lent, lentP, idsV, idsL, lkHS, flat, clean, callArgs, callFn, allLent, enumT, Gives, Ideal.Fin, conv, conv0, IBlk.shape, Op.operands, Call.operands, List.append_toArray, reduceIte, reduceCtorEq, cond_true, cond_false, Bool.or_false, Bool.and_true, Bool.and_eq_true, Bool.not_true, Bool.not_false, Nat.reduceAdd, Nat.reduceLT, Nat.reduceLeDiff, Nat.reduceEqDiff, Nat.reduceBEq, Nat.add_zero, Nat.zero_add, ne_eq, not_false_eq_true, true_and, and_true, and_false, and_self, implies_true, forall_const, List.map_cons, List.map_nil, List.nil_append, List.cons_append, List.append_nil, List.all_cons, List.all_nil, Option.map_some, List.getD_cons_zero, List.getD_cons_succ, List.length_cons, List.length_nil, List.take_succ_cons, List.take_zero, List.take_nil, List.drop_succ_cons, List.drop_zero, ex_clo, or_self, tab3, tab23, tab30, tab32, hN, pe, Int.toNat_natCast, encT, lk_impl_Triangle_turn_impl_turn, sp_impl_turn, el, g1, g2, g3, s1, s2, s3]
  omega
def sp_impl_Triangle_turn : PSpec := ⟨fun xs => match xs with | [.agg [.num .i64 t1, .num .i64 t2, .num .i64 t3], .sl 2 les] => isPs les ∧ ((fun (t : Tr) (l : List Pt) => idxOK l.length t = true) (t1, t2, t3) (toPs les)) ∧ ((fun (t : Tr) (l : List Pt) => SmL l) (t1, t2, t3) (toPs les)) ∧ ((fun (t : Tr) (l : List Pt) => l.length ≤ 1000000) (t1, t2, t3) (toPs les)) | _ => False, fun xs => match xs with | [.agg [.num _ t1, .num _ t2, .num _ t3], .sl _ les] => (fun (t : Tr) (l : List Pt) => .num .i64 (turn (triA l t) (triB l t) (triC l t))) (t1, t2, t3) (toPs les) | _ => .junk, false⟩
theorem gk_impl_Triangle_turn : ∀ args, sp_impl_Triangle_turn.pre args → ICall Try.prog 34 args (sp_impl_Triangle_turn.val args) := by
  intro args h
  unfold sp_impl_Triangle_turn at h ⊢; simp only at h ⊢; split at h
  · obtain ⟨h0, h1, h2, h3⟩ := h
    obtain ⟨l0, rfl⟩ := isP_ex h0
    simp only [toPs_enc] at *
    exact c_impl_Triangle_turn (_, _, _) _ h1 h2 h3
  · exact h.elim
theorem en_impl_Triangle_turn : Enters Try.prog 34 := enters_of Try.func34 (by kernel_rfl) rfl


/-- Is a triangle one of three points, counterclockwise? With overflow, and without. -/
def okTw (l : List Pt) (t : Tr) : Bool := idxOK l.length t && !(decide (crossW (triA l t) (triB l t) (triC l t) ≤ 0))
def okT (l : List Pt) (t : Tr) : Bool := idxOK l.length t && !(decide (turn (triA l t) (triB l t) (triC l t) ≤ 0))
theorem getD_any (l : List Pt) (n : Nat) : (encPs l).getD n .junk = .junk ∨ ∃ x y, (encPs l).getD n .junk = .agg [.num .i64 x, .num .i64 y] := by
  rcases Nat.lt_or_ge n l.length with h | h
  · exact .inr ⟨_, _, getD_encPs h⟩
  · exact .inl (by simp [List.getD, encPs, h])
theorem okTw_eq {l : List Pt} (hm : SmL l) (t : Tr) : okTw l t = okT l t := by
  have h := crossW_turn (hm.at t.1.toNat) (hm.at t.2.1.toNat) (hm.at t.2.2.toNat)
  unfold okTw okT triA triB triC; rw [h]
def meshB (l : List Pt) (ts : List Tr) : Bool := ts.all (okTw l) && siteB l && decide (ts.length ≤ 40)
theorem all_no {α : Type} {p : α → Bool} {d : α} {l : List α} {i : Nat} (hi : i < l.length) (h : p (l.getD i d) = false) : l.all p = false := by
  cases hc : l.all p with
  | false => rfl
  | true =>
    rw [List.all_eq_true] at hc
    have := hc (l.getD i d) (by rw [List.getD, List.getElem?_eq_getElem hi]; exact List.getElem_mem hi)
    rw [h] at this; cases this
theorem all_yes {α : Type} {p : α → Bool} {d : α} {l : List α} (h : ∀ j, j < l.length → p (l.getD j d) = true) : l.all p = true := by
  rw [List.all_eq_true]
  intro x hx
  obtain ⟨i, hi, rfl⟩ := List.getElem_of_mem hx
  have := h i hi
  simpa [List.getD, hi] using this
theorem all_part {α : Type} {p : α → Bool} {d : α} {l : List α} (h : l.all p = true) {i : Nat} (hi : i < l.length) : p (l.getD i d) = true := by
  rw [List.all_eq_true] at h
  exact h _ (by rw [List.getD, List.getElem?_eq_getElem hi]; exact List.getElem_mem hi)
def g_spec_validMesh : List (Nat × PSpec) := [(66, sp_spec_inRange), (44, sp_spec_cross_w), (49, sp_spec_validSites)]
theorem gok_spec_validMesh : GOK Try.prog g_spec_validMesh := gok_cons gk_spec_inRange en_spec_inRange (gok_cons gk_spec_cross_w en_spec_cross_w (gok_cons gk_spec_validSites en_spec_validSites (gok0)))
theorem lk_spec_validMesh_spec_inRange : lkG g_spec_validMesh 66 = sp_spec_inRange := rfl
theorem lk_spec_validMesh_spec_cross_w : lkG g_spec_validMesh 44 = sp_spec_cross_w := rfl
theorem lk_spec_validMesh_spec_validSites : lkG g_spec_validMesh 49 = sp_spec_validSites := rfl
def h_spec_validMesh : List (Nat × HSpec) := []
theorem hok_spec_validMesh : HOK Try.prog h_spec_validMesh := hok0
theorem c_spec_validMesh (l : List Pt) (ts : List Tr)  : ICall Try.prog 38 [.sl 2 (encPs l), .sl 3 (encTs ts)] (.bool (meshB l ts)) := by
  refine icall_V (G := g_spec_validMesh) (H := []) [(5, [(0, 5), (2, 5), (3, 5), (5, 8), (5, 9), (5, 10), (5, 11), (5, 12), (0, 13), (1, 13), (2, 13), (3, 13), (4, 13), (5, 13), (6, 13), (8, 13), (10, 13), (11, 13), (5, 14), (5, 15), (13, 15), (5, 16), (5, 17), (13, 17), (5, 18), (13, 18), (5, 19), (13, 19), (5, 20), (13, 20), (5, 21), (13, 21), (0, 22), (1, 22), (2, 22), (3, 22), (4, 22), (5, 22), (6, 22), (7, 22), (8, 22), (9, 22), (10, 22), (11, 22), (12, 22), (13, 22), (14, 22), (15, 22), (17, 22), (19, 22), (20, 22), (5, 23), (13, 23), (5, 24), (13, 24), (22, 24), (5, 25), (13, 25), (5, 26), (13, 26), (22, 26), (5, 27), (13, 27), (22, 27), (5, 28), (13, 28), (22, 28), (5, 29), (13, 29), (22, 29), (5, 30), (13, 30), (22, 30), (5, 31), (13, 31), (22, 31), (5, 32), (13, 32), (22, 32), (5, 33), (13, 33), (22, 33), (5, 34), (13, 34), (22, 34), (5, 35), (13, 35), (22, 35), (5, 36), (13, 36), (22, 36), (5, 37), (13, 37), (22, 37), (5, 38), (13, 38), (22, 38), (5, 39), (13, 39), (22, 39), (5, 40), (13, 40), (22, 40), (0, 41), (1, 41), (2, 41), (3, 41), (4, 41), (5, 41), (6, 41), (7, 41), (8, 41), (9, 41), (10, 41), (11, 41), (12, 41), (13, 41), (14, 41), (15, 41), (16, 41), (17, 41), (18, 41), (19, 41), (20, 41), (21, 41), (22, 41), (23, 41), (24, 41), (26, 41), (27, 41), (28, 41), (29, 41), (31, 41), (32, 41), (33, 41), (34, 41), (36, 41), (37, 41), (38, 41), (39, 41), (5, 42), (13, 42), (22, 42), (5, 43), (13, 43), (22, 43), (41, 43)])] tabOK mixed gok_spec_validMesh hok_spec_validMesh Try.func38 rfl Try.ntmps38 Try.results38 rfl (by kernel_rfl) fun F hN hlen => ?_
  have hl := hlen 0 2 _ rfl
  have hl2 := hlen 1 3 _ rfl
  have el := len_encPs l
  have et := len_encTs ts
  rw [el, maxLen_eq] at hl
  rw [et] at hl2
  have hv : meshB l ts = (ts.all (okTw l) && siteB l && decide (ts.length ≤ 40)) := rfl
  simp only [V_seq, V_block, V_region, W_nil, W_cons, effOp2, KN_seq, effOp, effPure, pureV, ofC, strip, ISt.app, opI, gO, gB, allB, gval, wrapG, dstOK, setD, enumT, Op.operands, Nat.reduceLT, Nat.zero_add, true_and, and_self, implies_true, List.nil_append, List.cons_append, List.append_nil, hN]
  refine V_loop (α := Nat) ⟨tabOK, mixed, gok_spec_validMesh, hok_spec_validMesh⟩ (by kernel_rfl) (fun i => i ≤ ts.length ∧ ∀ j, j < i → okTw l (tAt ts j) = true) (fun i => ⟨[(5, .num .i64 i), (0, .sl 2 (encPs l)), (1, .sl 3 (encTs ts))], []⟩) (fun i => ts.length - i) 0 id ⟨Nat.zero_le _, fun j h => absurd h (Nat.not_lt_zero j)⟩ (by simp [SLe, SLe0, convTm, convHp, conv, conv0, lkT, lkH, clean]) ?_
  rintro i ⟨hi, hj⟩
  simp only [V_seq, V_region, V_cond, W_nil, W_cons, effOp2, KN_seq, asB, effOp, effPure, pureV, binV, lenV, strip, lkT, ISt.app, opI, gO, gB, allB, gval, wrapG, dstOK, setD, Op.operands, Call.operands, List.append_toArray, reduceIte, reduceCtorEq, Nat.reduceLT, Nat.reduceEqDiff, ne_eq, not_false_eq_true, true_and, and_self, implies_true, List.nil_append, List.cons_append, List.append_nil, tab24, hN, et]
  refine brW_some (fun h => ?_) (fun h => ?_)
  · have hi' : i < ts.length := by simpa using h
    have hw := wr_succ hi' hl2
    have g0 := getD_encTs hi'
    have w1 : IntKind.i64.wrap ((l.length : Int) - 1) = (l.length : Int) - 1 := wr (by omega) (by omega)
    have hall : okTw l (tAt ts i) = false → meshB l ts = false := fun h => by rw [hv, all_no hi' h]; rfl
    have hstep := fun h => lt_stepD (P := fun j => okTw l (tAt ts j) = true) hj h
    generalize tAt ts i = t at *
    have hok : okTw l t = (inR t.1 0 ((l.length : Int) - 1) && inR t.2.1 0 ((l.length : Int) - 1) && inR t.2.2 0 ((l.length : Int) - 1) && !(decide (crossW (triA l t) (triB l t) (triC l t) ≤ 0))) := rfl
    have hid : idxOK l.length t = (inR t.1 0 ((l.length : Int) - 1) && inR t.2.1 0 ((l.length : Int) - 1) && inR t.2.2 0 ((l.length : Int) - 1)) := rfl
    cases h1 : inR t.1 0 ((l.length : Int) - 1) with
    | false =>
      have hn := hall (by rw [hok, h1]; rfl)
      rcases getD_any l t.1.toNat with k1 | ⟨x1, y1, k1⟩ <;> rcases getD_any l t.2.1.toNat with k2 | ⟨x2, y2, k2⟩ <;> rcases getD_any l t.2.2.toNat with k3 | ⟨x3, y3, k3⟩ <;>
        (simp only [V_seq, V_skip, V_ret, V_block, V_region, V_draw, V_cond, brW_true, drawW, WS_nil, pairsOf, W_nil, W_cons, effOp2, effOp3, WI_nil, WI_cons, KN_seq, KXr_nil, KXr_seq, KXr_block, KXr_back, QE, dynOK, indB, farB, freshB, freshK, freshK1, heapy, asB, effOp, effPure, effPick, effNew, effAlloc, effStore, effCall, giveUp, hasAll, skipE, pureV, pickV, storeV, binV, partV, eltV, loadV, faddrV, iaddrV, lenV, over, solid, IV.cells, ofC, strip, lkT, lkH, ISt.app, opI, gO, gB, allB, gval, wrapG, dstOK, setD, mentTm, mentHp, IV.ment, IV.mentL, oneI, lendV, lendP, lent, lentP, idsV, idsL, lkHS, flat, clean, callArgs, callFn, allLent, Gives, Ideal.Fin, conv, conv0, IBlk.shape, Op.operands, Call.operands, List.append_toArray, reduceIte, reduceCtorEq, cond_true, cond_false, Bool.or_false, Bool.or_true, Bool.and_true, Bool.and_eq_true, Bool.not_true, Bool.not_false, Nat.reduceAdd, Nat.reduceLT, Nat.reduceLeDiff, Nat.reduceEqDiff, Nat.reduceBEq, Nat.add_zero, Nat.zero_add, ne_eq, not_false_eq_true, true_and, and_true, false_and, and_false, and_self, false_implies, implies_true, forall_const, List.map_cons, List.map_nil, List.nil_append, List.cons_append, List.append_nil, List.all_cons, List.all_nil, Option.map_some, Option.bind_some, List.getElem?_cons_zero, List.getElem?_cons_succ, List.getD_cons_zero, List.getD_cons_succ, List.length_cons, List.length_nil, List.take_succ_cons, List.take_zero, List.take_nil, List.drop_succ_cons, List.drop_zero, List.drop_nil, ex_clo, btf, or_true, or_self, Bool.true_eq_false, Bool.false_eq_true, tab3, tab23, tab24, tab30, tab32, hN, Int.toNat_natCast, lk_spec_validMesh_spec_inRange, lk_spec_validMesh_spec_cross_w, sp_spec_inRange, sp_spec_cross_w, el, et, g0, w1, h1, hn, k1, k2, k3]
         omega)
    | true =>
      cases h2 : inR t.2.1 0 ((l.length : Int) - 1) with
      | false =>
        have hn := hall (by rw [hok, h1, h2]; rfl)
        rcases getD_any l t.1.toNat with k1 | ⟨x1, y1, k1⟩ <;> rcases getD_any l t.2.1.toNat with k2 | ⟨x2, y2, k2⟩ <;> rcases getD_any l t.2.2.toNat with k3 | ⟨x3, y3, k3⟩ <;>
          (simp only [V_seq, V_skip, V_ret, V_block, V_region, V_draw, V_cond, brW_true, drawW, WS_nil, pairsOf, W_nil, W_cons, effOp2, effOp3, WI_nil, WI_cons, KN_seq, KXr_nil, KXr_seq, KXr_block, KXr_back, QE, dynOK, indB, farB, freshB, freshK, freshK1, heapy, asB, effOp, effPure, effPick, effNew, effAlloc, effStore, effCall, giveUp, hasAll, skipE, pureV, pickV, storeV, binV, partV, eltV, loadV, faddrV, iaddrV, lenV, over, solid, IV.cells, ofC, strip, lkT, lkH, ISt.app, opI, gO, gB, allB, gval, wrapG, dstOK, setD, mentTm, mentHp, IV.ment, IV.mentL, oneI, lendV, lendP, lent, lentP, idsV, idsL, lkHS, flat, clean, callArgs, callFn, allLent, Gives, Ideal.Fin, conv, conv0, IBlk.shape, Op.operands, Call.operands, List.append_toArray, reduceIte, reduceCtorEq, cond_true, cond_false, Bool.or_false, Bool.or_true, Bool.and_true, Bool.and_eq_true, Bool.not_true, Bool.not_false, Nat.reduceAdd, Nat.reduceLT, Nat.reduceLeDiff, Nat.reduceEqDiff, Nat.reduceBEq, Nat.add_zero, Nat.zero_add, ne_eq, not_false_eq_true, beq_self_eq_true, true_and, and_true, false_and, and_false, and_self, false_implies, implies_true, forall_const, List.map_cons, List.map_nil, List.nil_append, List.cons_append, List.append_nil, List.all_cons, List.all_nil, Option.map_some, Option.bind_some, List.getElem?_cons_zero, List.getElem?_cons_succ, List.getD_cons_zero, List.getD_cons_succ, List.length_cons, List.length_nil, List.take_succ_cons, List.take_zero, List.take_nil, List.drop_succ_cons, List.drop_zero, List.drop_nil, ex_clo, btf, or_true, or_self, Bool.true_eq_false, Bool.false_eq_true, tab3, tab23, tab24, tab30, tab32, hN, Int.toNat_natCast, lk_spec_validMesh_spec_inRange, lk_spec_validMesh_spec_cross_w, sp_spec_inRange, sp_spec_cross_w, el, et, g0, w1, h1, h2, hn, k1, k2, k3]
           omega)
      | true =>
        cases h3 : inR t.2.2 0 ((l.length : Int) - 1) with
        | false =>
          have hn := hall (by rw [hok, h1, h2, h3]; rfl)
          rcases getD_any l t.1.toNat with k1 | ⟨x1, y1, k1⟩ <;> rcases getD_any l t.2.1.toNat with k2 | ⟨x2, y2, k2⟩ <;> rcases getD_any l t.2.2.toNat with k3 | ⟨x3, y3, k3⟩ <;>
            (simp only [V_seq, V_skip, V_ret, V_block, V_region, V_draw, V_cond, brW_true, drawW, WS_nil, pairsOf, W_nil, W_cons, effOp2, effOp3, WI_nil, WI_cons, KN_seq, KXr_nil, KXr_seq, KXr_block, KXr_back, QE, dynOK, indB, farB, freshB, freshK, freshK1, heapy, asB, effOp, effPure, effPick, effNew, effAlloc, effStore, effCall, giveUp, hasAll, skipE, pureV, pickV, storeV, binV, partV, eltV, loadV, faddrV, iaddrV, lenV, over, solid, IV.cells, ofC, strip, lkT, lkH, ISt.app, opI, gO, gB, allB, gval, wrapG, dstOK, setD, mentTm, mentHp, IV.ment, IV.mentL, oneI, lendV, lendP, lent, lentP, idsV, idsL, lkHS, flat, clean, callArgs, callFn, allLent, Gives, Ideal.Fin, conv, conv0, IBlk.shape, Op.operands, Call.operands, List.append_toArray, reduceIte, reduceCtorEq, cond_true, cond_false, Bool.or_false, Bool.or_true, Bool.and_true, Bool.and_eq_true, Bool.not_true, Bool.not_false, Nat.reduceAdd, Nat.reduceLT, Nat.reduceLeDiff, Nat.reduceEqDiff, Nat.reduceBEq, Nat.add_zero, Nat.zero_add, ne_eq, not_false_eq_true, beq_self_eq_true, true_and, and_true, false_and, and_false, and_self, false_implies, implies_true, forall_const, List.map_cons, List.map_nil, List.nil_append, List.cons_append, List.append_nil, List.all_cons, List.all_nil, Option.map_some, Option.bind_some, List.getElem?_cons_zero, List.getElem?_cons_succ, List.getD_cons_zero, List.getD_cons_succ, List.length_cons, List.length_nil, List.take_succ_cons, List.take_zero, List.take_nil, List.drop_succ_cons, List.drop_zero, List.drop_nil, ex_clo, btf, or_true, or_self, Bool.true_eq_false, Bool.false_eq_true, tab3, tab23, tab24, tab30, tab32, hN, Int.toNat_natCast, lk_spec_validMesh_spec_inRange, lk_spec_validMesh_spec_cross_w, sp_spec_inRange, sp_spec_cross_w, el, et, g0, w1, h1, h2, h3, hn, k1, k2, k3]
             omega)
        | true =>
          rw [h1, h2, h3] at hid hok
          obtain ⟨⟨a0, a1⟩, ⟨b0, b1⟩, ⟨c0, c1⟩⟩ := idx_facts hid
          obtain ⟨t1, t2, t3⟩ := t
          simp only [] at a0 a1 b0 b1 c0 c1
          obtain ⟨x, rfl⟩ := nat_of a0
          obtain ⟨y, rfl⟩ := nat_of b0
          obtain ⟨z, rfl⟩ := nat_of c0
          have g1 := getD_encPs (l := l) (i := x) (by omega)
          have g2 := getD_encPs (l := l) (i := y) (by omega)
          have g3 := getD_encPs (l := l) (i := z) (by omega)
          have e1 : triA l ((x : Int), (y : Int), (z : Int)) = pAt l x := rfl
          have e2 : triB l ((x : Int), (y : Int), (z : Int)) = pAt l y := rfl
          have e3 : triC l ((x : Int), (y : Int), (z : Int)) = pAt l z := rfl
          rw [e1, e2, e3] at hok
          simp only [] at h1 h2 h3
          cases h4 : decide (crossW (pAt l x) (pAt l y) (pAt l z) ≤ 0) with
          | true =>
            have hn := hall (by rw [hok, h4]; rfl)
            simp only [V_seq, V_skip, V_ret, V_block, V_region, V_draw, V_cond, brW_true, drawW, WS_nil, pairsOf, W_nil, W_cons, effOp2, effOp3, WI_nil, WI_cons, KN_seq, KXr_nil, KXr_seq, KXr_block, KXr_back, QE, dynOK, indB, farB, freshB, freshK, freshK1, heapy, asB, effOp, effPure, effPick, effNew, effAlloc, effStore, effCall, giveUp, hasAll, skipE, pureV, pickV, storeV, binV, partV, eltV, loadV, faddrV, iaddrV, lenV, over, solid, IV.cells, ofC, strip, lkT, lkH, ISt.app, opI, gO, gB, allB, gval, wrapG, dstOK, setD, mentTm, mentHp, IV.ment, IV.mentL, oneI, lendV, lendP, lent, lentP, idsV, idsL, lkHS, flat, clean, callArgs, callFn, allLent, Gives, Ideal.Fin, conv, conv0, IBlk.shape, Op.operands, Call.operands, List.append_toArray, reduceIte, reduceCtorEq, cond_true, cond_false, Bool.or_false, Bool.and_true, Bool.and_eq_true, Bool.not_true, Bool.not_false, Nat.reduceAdd, Nat.reduceLT, Nat.reduceLeDiff, Nat.reduceEqDiff, Nat.reduceBEq, Nat.add_zero, Nat.zero_add, ne_eq, not_false_eq_true, beq_self_eq_true, true_and, and_true, and_false, and_self, implies_true, forall_const, List.map_cons, List.map_nil, List.nil_append, List.cons_append, List.append_nil, List.all_cons, List.all_nil, Option.map_some, Option.bind_some, List.getElem?_cons_zero, List.getElem?_cons_succ, List.getD_cons_zero, List.getD_cons_succ, List.length_cons, List.length_nil, List.take_succ_cons, List.take_zero, List.take_nil, List.drop_succ_cons, List.drop_zero, List.drop_nil, ex_clo, or_self, Bool.false_eq_true, tab3, tab23, tab24, tab30, tab32, hN, pe, Int.toNat_natCast, lk_spec_validMesh_spec_inRange, lk_spec_validMesh_spec_cross_w, sp_spec_inRange, sp_spec_cross_w, el, et, g0, w1, h1, h2, h3, g1, g2, g3, h4, hn]
            omega
          | false =>
            have hst := hstep (by rw [hok, h4]; rfl)
            simp only [V_seq, V_skip, V_block, V_region, V_draw, V_cond, brW_false, drawW, WS_nil, pairsOf, W_nil, W_cons, effOp2, effOp3, WI_nil, WI_cons, KN_seq, KN_block, KN_back, dynOK, indB, farB, freshB, freshK, freshK1, heapy, asB, effOp, effPure, effPick, effNew, effAlloc, effStore, effCall, giveUp, hasAll, skipE, pureV, pickV, storeV, binV, partV, eltV, loadV, faddrV, iaddrV, lenV, over, solid, IV.cells, ofC, strip, lkT, lkH, ISt.app, opI, gO, gB, allB, gval, wrapG, dstOK, setD, mentTm, mentHp, IV.ment, IV.mentL, oneI, lendV, lendP, lent, lentP, idsV, idsL, lkHS, flat, clean, callArgs, callFn, allLent, IBlk.shape, Op.operands, Call.operands, List.append_toArray, reduceIte, reduceCtorEq, cond_true, cond_false, Bool.or_false, Bool.and_true, Bool.and_eq_true, Bool.not_true, Bool.not_false, Nat.reduceAdd, Nat.reduceLT, Nat.reduceLeDiff, Nat.reduceEqDiff, Nat.reduceBEq, Nat.add_zero, Nat.zero_add, ne_eq, not_false_eq_true, beq_self_eq_true, true_and, and_true, and_false, and_self, implies_true, forall_const, List.map_cons, List.map_nil, List.nil_append, List.cons_append, List.append_nil, List.all_cons, List.all_nil, Option.map_some, Option.bind_some, List.getElem?_cons_zero, List.getElem?_cons_succ, List.getD_cons_zero, List.getD_cons_succ, List.length_cons, List.length_nil, List.take_succ_cons, List.take_zero, List.take_nil, List.drop_succ_cons, List.drop_zero, List.drop_nil, ex_clo, or_self, Bool.false_eq_true, tab3, tab23, tab24, tab30, tab32, hN, pe, Int.toNat_natCast, lk_spec_validMesh_spec_inRange, lk_spec_validMesh_spec_cross_w, sp_spec_inRange, sp_spec_cross_w, el, et, g0, w1, h1, h2, h3, g1, g2, g3, h4, hw]
            repeat refine And.intro (by first | omega | (simp; done) | (simp; omega)) ?_
            exact ⟨i + 1, id, ⟨by omega, hst⟩, by simp only []; omega, by simp [SLe, SLe0, convTm, convHp, conv, conv0, lkT, lkH, clean]⟩
  · have hie : i = ts.length := by simp at h; omega
    subst hie
    have ha := all_yes (d := (0, 0, 0)) hj
    have d1 : decide ((ts.length : Int) ≤ 40) = decide (ts.length ≤ 40) := by rw [Bool.eq_iff_iff]; simp; omega
    rw [ha, Bool.true_and] at hv
    cases h1 : siteB l with
    | false =>
      rw [h1] at hv
      simp only [V_seq, V_ret, V_exit, V_region, W_nil, W_cons, effOp2, KN_seq, KXr_nil, KXe_nil, KXe_seq, KXe_block, KXe_back, QE, effOp, effPure, effPick, effCall, giveUp, hasAll, pureV, pickV, binV, lenV, ofC, strip, lkT, lkH, ISt.app, opI, gO, gB, allB, gval, wrapG, dstOK, setD, lendV, lendP, lent, lentP, idsV, idsL, lkHS, flat, clean, callArgs, callFn, allLent, Gives, Ideal.Fin, conv, conv0, Op.operands, Call.operands, List.append_toArray, reduceIte, reduceCtorEq, cond_true, cond_false, Bool.or_false, Bool.false_and, Bool.not_true, Nat.reduceLT, Nat.reduceEqDiff, ne_eq, not_false_eq_true, and_true, and_self, false_implies, implies_true, List.map_cons, List.map_nil, List.nil_append, List.cons_append, List.append_nil, Option.bind_some, List.getElem?_cons_zero, List.getElem?_cons_succ, ex_clo, bft, or_self, Bool.false_eq_true, tab24, hN, isPs_enc, toPs_enc, lk_spec_validMesh_spec_validSites, sp_spec_validSites, et, h1, hv]
    | true =>
      rw [h1] at hv
      simp only [V_seq, V_ret, V_exit, V_region, W_nil, W_cons, effOp2, KN_seq, KXr_nil, KXe_nil, KXe_seq, KXe_block, KXe_back, QE, effOp, effPure, effPick, effCall, giveUp, hasAll, pureV, pickV, binV, lenV, ofC, strip, lkT, lkH, ISt.app, opI, gO, gB, allB, gval, wrapG, dstOK, setD, lendV, lendP, lent, lentP, idsV, idsL, lkHS, flat, clean, callArgs, callFn, allLent, Gives, Ideal.Fin, conv, conv0, Op.operands, Call.operands, List.append_toArray, reduceIte, reduceCtorEq, cond_true, Bool.or_false, Bool.true_and, Bool.not_true, Nat.reduceLT, Nat.reduceEqDiff, ne_eq, not_false_eq_true, beq_self_eq_true, and_self, implies_true, List.map_cons, List.map_nil, List.nil_append, List.cons_append, List.append_nil, Option.bind_some, List.getElem?_cons_zero, List.getElem?_cons_succ, ex_clo, or_self, Bool.true_eq_false, tab24, hN, isPs_enc, toPs_enc, lk_spec_validMesh_spec_validSites, sp_spec_validSites, et, h1, d1, hv]
def sp_spec_validMesh : PSpec := ⟨fun xs => match xs with | [.sl 2 les, .sl 3 tses] => isPs les ∧ isTs tses | _ => False, fun xs => match xs with | [.sl _ les, .sl _ tses] => (fun (l : List Pt) (ts : List Tr) => .bool (meshB l ts)) (toPs les) (toTs tses) | _ => .junk, false⟩
theorem gk_spec_validMesh : ∀ args, sp_spec_validMesh.pre args → ICall Try.prog 38 args (sp_spec_validMesh.val args) := by
  intro args h
  unfold sp_spec_validMesh at h ⊢; simp only at h ⊢; split at h
  · obtain ⟨h0, h1⟩ := h
    obtain ⟨l0, rfl⟩ := isP_ex h0
    obtain ⟨l1, rfl⟩ := isT_ex h1
    simp only [toPs_enc, toTs_enc] at *
    exact c_spec_validMesh _ _ 
  · exact h.elim
theorem en_spec_validMesh : Enters Try.prog 38 := enters_of Try.func38 (by kernel_rfl) rfl


/-- Is a point inside of the circle of a triangle? -/
def circS (l : List Pt) (t : Tr) (q : Pt) : Bool := decide (0 < sgnI (inC (triA l t) (triB l t) (triC l t) q))
def delT (l : List Pt) (t : Tr) : Bool := okT l t && !(l.any (circS l t))
/-- Are the triangles Delaunay? -/
def delB (l : List Pt) (ts : List Tr) : Bool := siteB l && decide (ts.length ≤ 40) && ts.all (delT l)
theorem del_split {l : List Pt} (ts : List Tr) (h : siteB l = true) : delB l ts = (meshB l ts && ts.all fun t => !(l.any (circS l t))) := by
  have hm : SmL l := by
    simp only [siteB, Bool.and_eq_true] at h; exact okPs_sm h.1
  have e : ts.all (delT l) = (ts.all (okTw l) && ts.all fun t => !(l.any (circS l t))) := by
    rw [Bool.eq_iff_iff]
    simp only [List.all_eq_true, Bool.and_eq_true, delT, okTw_eq hm]
    exact ⟨fun h => ⟨fun x hx => (h x hx).1, fun x hx => (h x hx).2⟩, fun h x hx => ⟨h.1 x hx, h.2 x hx⟩⟩
  unfold delB meshB
  rw [e, h]
  cases ts.all (okTw l) <;> cases decide (ts.length ≤ 40) <;> simp
theorem mesh_no {l : List Pt} {ts : List Tr} (h : meshB l ts = false) : delB l ts = false := by
  cases hs : siteB l with
  | false => unfold delB; rw [hs]; rfl
  | true => rw [del_split ts hs, h]; rfl
theorem site_vp {l : List Pt} (h : siteB l = true) : okPs l = true := by
  simp only [siteB, Bool.and_eq_true] at h; exact h.1
theorem mesh_facts {l : List Pt} {ts : List Tr} (h : meshB l ts = true) : siteB l = true ∧ ts.length ≤ 40 ∧ ts.all (okTw l) = true := by
  simp only [meshB, Bool.and_eq_true, decide_eq_true_eq] at h
  exact ⟨h.1.2, h.2, h.1.1⟩

def g_spec_IsDelaunay : List (Nat × PSpec) := [(38, sp_spec_validMesh), (39, sp_spec_inCircle)]
theorem gok_spec_IsDelaunay : GOK Try.prog g_spec_IsDelaunay := gok_cons gk_spec_validMesh en_spec_validMesh (gok_cons gk_spec_inCircle en_spec_inCircle (gok0))
theorem lk_spec_IsDelaunay_spec_validMesh : lkG g_spec_IsDelaunay 38 = sp_spec_validMesh := rfl
theorem lk_spec_IsDelaunay_spec_inCircle : lkG g_spec_IsDelaunay 39 = sp_spec_inCircle := rfl
def h_spec_IsDelaunay : List (Nat × HSpec) := []
theorem hok_spec_IsDelaunay : HOK Try.prog h_spec_IsDelaunay := hok0
theorem c_spec_IsDelaunay (l : List Pt) (ts : List Tr)  : ICall Try.prog 9 [.sl 2 (encPs l), .sl 3 (encTs ts)] (.bool (delB l ts)) := by
  refine icall_V (G := g_spec_IsDelaunay) (H := []) [(9, [(0, 28), (1, 28), (2, 28), (3, 28), (4, 28), (5, 28), (6, 28), (8, 28), (9, 28), (10, 28), (11, 28), (12, 28), (13, 28), (14, 28), (16, 28), (17, 28), (18, 28), (19, 28), (20, 28), (21, 28), (22, 28), (24, 28), (25, 28), (26, 28)])] tabOK mixed gok_spec_IsDelaunay hok_spec_IsDelaunay Try.func9 rfl Try.ntmps9 Try.results9 rfl (by kernel_rfl) fun F hN hlen => ?_
  have el := len_encPs l
  have et := len_encTs ts
  cases h1 : meshB l ts with
  | false =>
    have hn := mesh_no h1
    simp only [V_seq, V_ret, V_region, V_cond, brW_true, W_nil, W_cons, effOp2, KN_seq, KXr_nil, KXr_seq, QE, asB, effOp, effPure, effCall, giveUp, hasAll, pureV, ofC, strip, lkT, lkH, ISt.app, opI, gO, gB, allB, gval, wrapG, dstOK, setD, lendV, lendP, lent, lentP, idsV, idsL, lkHS, flat, clean, callArgs, callFn, allLent, enumT, Gives, Ideal.Fin, conv, conv0, Op.operands, reduceIte, reduceCtorEq, cond_true, Bool.or_false, Bool.not_true, Bool.not_false, Nat.reduceLT, Nat.reduceEqDiff, Nat.zero_add, and_self, implies_true, List.map_cons, List.map_nil, List.nil_append, List.cons_append, List.append_nil, ex_clo, or_self, hN, isPs_enc, toPs_enc, isTs_enc, toTs_enc, lk_spec_IsDelaunay_spec_validMesh, sp_spec_validMesh, h1, hn]
  | true =>
    obtain ⟨hs, h40, hok⟩ := mesh_facts h1
    have hv := del_split ts hs
    rw [h1, Bool.true_and] at hv
    have hk := site_vp hs
    have hn20 := okPs_len hk
    simp only [V_seq, V_skip, V_block, V_region, V_cond, brW_false, W_nil, W_cons, effOp2, KN_seq, asB, effOp, effPure, effCall, giveUp, hasAll, pureV, ofC, strip, lkT, lkH, ISt.app, opI, gO, gB, allB, gval, wrapG, dstOK, setD, lendV, lendP, lent, lentP, idsV, idsL, lkHS, flat, clean, callArgs, callFn, allLent, enumT, Op.operands, reduceIte, reduceCtorEq, cond_true, Bool.or_false, Bool.not_true, Nat.reduceLT, Nat.reduceEqDiff, Nat.zero_add, true_and, and_self, implies_true, List.map_cons, List.map_nil, List.nil_append, List.cons_append, List.append_nil, ex_clo, or_self, hN, isPs_enc, toPs_enc, isTs_enc, toTs_enc, lk_spec_IsDelaunay_spec_validMesh, sp_spec_validMesh, h1]
    refine V_loop (α := Nat) ⟨tabOK, mixed, gok_spec_IsDelaunay, hok_spec_IsDelaunay⟩ (by kernel_rfl) (fun i => i ≤ ts.length ∧ ∀ j, j < i → (!(l.any (circS l (tAt ts j)))) = true) (fun i => ⟨[(5, .num .i64 i), (0, .sl 2 (encPs l)), (1, .sl 3 (encTs ts))], []⟩) (fun i => ts.length - i) 0 id ⟨Nat.zero_le _, fun j h => absurd h (Nat.not_lt_zero j)⟩ (by simp [SLe, SLe0, convTm, convHp, conv, conv0, lkT, lkH, clean]) ?_
    rintro i ⟨hi, hj⟩
    simp only [V_seq, V_region, V_cond, W_nil, W_cons, effOp2, KN_seq, asB, effOp, effPure, pureV, binV, lenV, strip, lkT, ISt.app, opI, gO, gB, allB, gval, wrapG, dstOK, setD, Op.operands, Call.operands, List.append_toArray, reduceIte, reduceCtorEq, Nat.reduceLT, Nat.reduceEqDiff, ne_eq, not_false_eq_true, true_and, and_self, implies_true, List.nil_append, List.cons_append, List.append_nil, tab24, hN, et]
    refine brW_some (fun h => ?_) (fun h => ?_)
    · have hi' : i < ts.length := by simpa using h
      have hw := wr_succ hi' (by rw [maxLen_eq]; omega)
      have g0 := getD_encTs hi'
      have hall : (!(l.any (circS l (tAt ts i)))) = false → delB l ts = false := fun h => by rw [hv]; exact all_no (d := (0, 0, 0)) hi' h
      have hstep := fun h => lt_stepD (P := fun j => (!(l.any (circS l (tAt ts j)))) = true) hj h
      have hkt : okTw l (tAt ts i) = true := all_part (d := (0, 0, 0)) hok hi'
      generalize htt : tAt ts i = t at *
      have hid : idxOK l.length t = true := by simp only [okTw, Bool.and_eq_true] at hkt; exact hkt.1
      obtain ⟨⟨a0, a1⟩, ⟨b0, b1⟩, ⟨c0, c1⟩⟩ := idx_facts hid
      obtain ⟨t1, t2, t3⟩ := t
      simp only [] at a0 a1 b0 b1 c0 c1
      obtain ⟨x, rfl⟩ := nat_of a0
      obtain ⟨y, rfl⟩ := nat_of b0
      obtain ⟨z, rfl⟩ := nat_of c0
      have g1 := getD_encPs (l := l) (i := x) (by omega)
      have g2 := getD_encPs (l := l) (i := y) (by omega)
      have g3 := getD_encPs (l := l) (i := z) (by omega)
      have v1 := okPs_vp hk (i := x) (by omega)
      have v2 := okPs_vp hk (i := y) (by omega)
      have v3 := okPs_vp hk (i := z) (by omega)
      simp only [V_seq, V_skip, V_block, V_region, W_nil, W_cons, effOp2, KN_seq, effOp, effPure, pureV, ofC, strip, ISt.app, opI, gO, gB, allB, gval, wrapG, dstOK, setD, Op.operands, Nat.reduceLT, true_and, and_self, implies_true, List.nil_append, List.cons_append, List.append_nil, hN]
      refine V_loop (α := Nat) ⟨tabOK, mixed, gok_spec_IsDelaunay, hok_spec_IsDelaunay⟩ (by kernel_rfl) (fun k => k ≤ l.length ∧ ∀ c, c < k → circS l ((x : Int), (y : Int), (z : Int)) (pAt l c) = false) (fun k => ⟨[(6, .num .i64 k), (5, .num .i64 i), (0, .sl 2 (encPs l)), (1, .sl 3 (encTs ts))], []⟩) (fun k => l.length - k) 0 id ⟨Nat.zero_le _, fun j h => absurd h (Nat.not_lt_zero j)⟩ (by simp [SLe, SLe0, convTm, convHp, conv, conv0, lkT, lkH, clean]) ?_
      rintro k ⟨hki, hK⟩
      simp only [V_seq, V_region, V_cond, W_nil, W_cons, effOp2, KN_seq, asB, effOp, effPure, pureV, binV, lenV, strip, lkT, ISt.app, opI, gO, gB, allB, gval, wrapG, dstOK, setD, Op.operands, Call.operands, List.append_toArray, reduceIte, reduceCtorEq, Nat.reduceLT, Nat.reduceEqDiff, ne_eq, not_false_eq_true, true_and, and_self, implies_true, List.nil_append, List.cons_append, List.append_nil, tab23, hN, el]
      refine brW_some (fun h => ?_) (fun h => ?_)
      · have hk' : k < l.length := by simpa using h
        have hw2 := wr_succ hk' (by rw [maxLen_eq]; omega)
        have g4 := getD_encPs hk'
        have v4 := okPs_vp hk hk'
        have hcs : decide (0 < sgnI (inC (pAt l x) (pAt l y) (pAt l z) (pAt l k))) = circS l ((x : Int), (y : Int), (z : Int)) (pAt l k) := rfl
        cases c5 : circS l ((x : Int), (y : Int), (z : Int)) (pAt l k) with
        | true =>
          have hn := hall (by
            rw [Bool.not_eq_false']
            rw [List.any_eq_true]
            exact ⟨pAt l k, pA_mem hk', c5⟩)
          simp only [V_seq, V_skip, V_ret, V_block, V_region, V_draw, V_cond, brW_true, drawW, WS_nil, pairsOf, W_nil, W_cons, effOp2, effOp3, WI_nil, WI_cons, KN_seq, KXr_nil, KXr_seq, KXr_block, KXr_back, QE, dynOK, indB, farB, freshB, freshK, freshK1, heapy, asB, effOp, effPure, effCall, giveUp, hasAll, pureV, binV, partV, eltV, loadV, faddrV, iaddrV, ofC, strip, lkT, lkH, ISt.app, opI, gO, gB, allB, gval, wrapG, dstOK, setD, mentTm, mentHp, IV.ment, lendV, lendP, lent, lentP, idsV, idsL, lkHS, flat, clean, callArgs, callFn, allLent, Gives, Ideal.Fin, conv, conv0, Op.operands, Call.operands, List.append_toArray, reduceIte, reduceCtorEq, cond_true, cond_false, Bool.or_false, Bool.and_true, Bool.and_eq_true, Bool.not_true, Bool.not_false, Nat.reduceAdd, Nat.reduceLT, Nat.reduceLeDiff, Nat.reduceEqDiff, Nat.reduceBEq, Nat.add_zero, Nat.zero_add, ne_eq, not_false_eq_true, true_and, and_true, and_false, and_self, implies_true, forall_const, List.map_cons, List.map_nil, List.nil_append, List.cons_append, List.append_nil, List.getD_cons_zero, List.getD_cons_succ, List.length_cons, List.length_nil, List.take_succ_cons, List.take_zero, List.take_nil, List.drop_succ_cons, List.drop_zero, ex_clo, or_self, tab3, tab23, tab24, tab30, tab32, hN, pe, Int.toNat_natCast, lk_spec_IsDelaunay_spec_inCircle, sp_spec_inCircle, el, et, g0, g1, g2, g3, g4, v1, v2, v3, v4, hcs, c5, hn]
          omega
        | false =>
          simp only [V_seq, V_skip, V_block, V_region, V_draw, V_cond, brW_false, drawW, WS_nil, pairsOf, W_nil, W_cons, effOp2, effOp3, WI_nil, WI_cons, KN_seq, KN_block, KN_back, dynOK, indB, farB, freshB, freshK, freshK1, heapy, asB, effOp, effPure, effCall, giveUp, hasAll, pureV, binV, partV, eltV, loadV, faddrV, iaddrV, ofC, strip, lkT, lkH, ISt.app, opI, gO, gB, allB, gval, wrapG, dstOK, setD, mentTm, mentHp, IV.ment, lendV, lendP, lent, lentP, idsV, idsL, lkHS, flat, clean, callArgs, callFn, allLent, Op.operands, Call.operands, List.append_toArray, reduceIte, reduceCtorEq, cond_true, cond_false, Bool.or_false, Bool.and_true, Bool.and_eq_true, Bool.not_true, Bool.not_false, Nat.reduceAdd, Nat.reduceLT, Nat.reduceLeDiff, Nat.reduceEqDiff, Nat.reduceBEq, Nat.add_zero, Nat.zero_add, ne_eq, not_false_eq_true, true_and, and_true, and_false, and_self, implies_true, forall_const, List.map_cons, List.map_nil, List.nil_append, List.cons_append, List.append_nil, List.getD_cons_zero, List.getD_cons_succ, List.length_cons, List.length_nil, List.take_succ_cons, List.take_zero, List.take_nil, List.drop_succ_cons, List.drop_zero, ex_clo, or_self, tab3, tab23, tab24, tab30, tab32, hN, pe, Int.toNat_natCast, lk_spec_IsDelaunay_spec_inCircle, sp_spec_inCircle, el, et, g0, g1, g2, g3, g4, v1, v2, v3, v4, hcs, c5, hw2]
          repeat refine And.intro (by first | omega | (simp; done) | (simp; omega)) ?_
          exact ⟨k + 1, id, ⟨by omega, lt_stepD hK c5⟩, by simp only []; omega, by simp [SLe, SLe0, convTm, convHp, conv, conv0, lkT, lkH, clean]⟩
      · have hie : k = l.length := by simp at h; omega
        subst hie
        have hst := hstep (by
          rw [Bool.not_eq_true', List.any_eq_false]
          intro p hp
          obtain ⟨c, hc, rfl⟩ := mem_pA hp
          rw [hK c hc]; decide)
        simp only [V_seq, V_ret, V_exit, V_region, W_nil, W_cons, effOp2, KN_seq, KN_block, KN_back, KXr_nil, KXe_nil, KXe_seq, KXe_block, KXe_back, QE, effOp, effPure, pureV, binV, ofC, strip, lkT, lkH, ISt.app, opI, gO, gB, allB, gval, wrapG, dstOK, setD, clean, Gives, Ideal.Fin, conv, conv0, Op.operands, reduceIte, reduceCtorEq, Nat.reduceLT, Nat.reduceEqDiff, true_and, and_true, and_self, implies_true, List.nil_append, List.cons_append, List.append_nil, hN, hw]
        exact ⟨i + 1, id, ⟨by omega, hst⟩, by simp only []; omega, by simp [SLe, SLe0, convTm, convHp, conv, conv0, lkT, lkH, clean]⟩
    · have hie : i = ts.length := by simp at h; omega
      subst hie
      have ha := all_yes (p := fun t => !(l.any (circS l t))) (d := (0, 0, 0)) hj
      rw [ha] at hv
      simp only [V_seq, V_ret, V_exit, V_region, W_nil, W_cons, effOp2, KN_seq, KXr_nil, KXe_nil, KXe_seq, KXe_block, KXe_back, QE, effOp, effPure, pureV, ofC, strip, lkT, lkH, ISt.app, opI, gO, gB, allB, gval, wrapG, dstOK, setD, clean, Gives, Ideal.Fin, conv, conv0, Op.operands, reduceIte, reduceCtorEq, Nat.reduceLT, Nat.reduceEqDiff, and_self, implies_true, List.nil_append, List.cons_append, List.append_nil, hN, hv]
def sp_spec_IsDelaunay : PSpec := ⟨fun xs => match xs with | [.sl 2 les, .sl 3 tses] => isPs les ∧ isTs tses | _ => False, fun xs => match xs with | [.sl _ les, .sl _ tses] => (fun (l : List Pt) (ts : List Tr) => .bool (delB l ts)) (toPs les) (toTs tses) | _ => .junk, false⟩
theorem gk_spec_IsDelaunay : ∀ args, sp_spec_IsDelaunay.pre args → ICall Try.prog 9 args (sp_spec_IsDelaunay.val args) := by
  intro args h
  unfold sp_spec_IsDelaunay at h ⊢; simp only at h ⊢; split at h
  · obtain ⟨h0, h1⟩ := h
    obtain ⟨l0, rfl⟩ := isP_ex h0
    obtain ⟨l1, rfl⟩ := isT_ex h1
    simp only [toPs_enc, toTs_enc] at *
    exact c_spec_IsDelaunay _ _ 
  · exact h.elim
theorem en_spec_IsDelaunay : Enters Try.prog 9 := enters_of Try.func9 (by kernel_rfl) rfl


end Go.Proofs.Ytbbmeabfmjkldaa
