/- impl.HullWitness, at the machine's values. -/
import Derived.Test.YtiadicmnbjaknaaB103
set_option linter.unusedVariables false
set_option linter.unusedSimpArgs false
set_option maxHeartbeats 4000000
set_option maxRecDepth 100000
namespace Go.Proofs.Ytiadicmnbjaknaa
open Go Go.Ideal Go.Pl Go.Sort

def g_e_hw : List (Nat × PSpec) := [(17, sp_impl_listOk), (18, sp_impl_hull)]
theorem gok_e_hw : GOK Try.prog g_e_hw := gok_cons gk_impl_listOk en_impl_listOk (gok_cons gk_impl_hull en_impl_hull (gok0))
theorem lk_e_hw_impl_listOk : lkG g_e_hw 17 = sp_impl_listOk := rfl
theorem lk_e_hw_impl_hull : lkG g_e_hw 18 = sp_impl_hull := rfl
def h_e_hw : List (Nat × HSpec) := []
theorem hok_e_hw : HOK Try.prog h_e_hw := hok0
abbrev wL (l : List Pt) (j : Nat) : List Int := wAt (witsV l) j
abbrev wN (l : List Pt) (j : Nat) : Nat := (wAt (witsV l) j).length
def HW (l : List Pt) (w w' : World) (y : Value) : Prop :=
  Chg (fun _ => False) w w' ∧ ∃ vs β, Nest w' vs (witsV l).length (wL l) (wN l) β ∧ (∀ b, NB (witsV l).length (wN l) β b → w.heap.size ≤ b) ∧ RepV (bare (fun b => b < w.heap.size ∨ NB (witsV l).length (wN l) β b) w') (.sl 1 vs) y

theorem raw_HullWitness {A : Nat → Prop} {w : World} {l : List Pt} {x : Value} (hAw : ∀ b, A b → b < w.heap.size) (hx : RepV (bare A w) (.sl 2 (encPs l)) x) :
    Calls Try.prog 7 ⟨[x]⟩ w fun e w' => ∃ y, e = .returned y ∧ HW l w w' y := by
  have hargs : RepL (bare A w) [.sl 2 (encPs l)] [x] := by
    simp only [RepL]
    exact ⟨_, _, rfl, hx, rfl⟩
  cases hk : okPs l with
  | false =>
    have hv : witsV l = [] := by rw [witsV, hk]; rfl
    refine (c_impl_HullWitness l A w _ hAw hargs).mono ?_
    rintro e w' ⟨y, he, hc, hy⟩
    refine ⟨y, he, hc, [], fun _ => 0, ⟨by rw [hv]; rfl, fun j hj => rfl, fun j hj => by rw [hv] at hj; exact absurd hj (Nat.not_lt_zero _), fun i j hi => by rw [hv] at hi; exact absurd hi (Nat.not_lt_zero _)⟩, ?_, ?_⟩
    · rintro b ⟨j, hj, _⟩
      rw [hv] at hj; exact absurd hj (Nat.not_lt_zero _)
    · rw [hv] at hy
      simp only [RepV] at hy ⊢
      obtain ⟨a, n, cp, q1, q2, q3, q4, q5, q6, q7⟩ := hy
      exact ⟨a, n, cp, q1, q2, q3, q4, q5, q6, fun h0 => by rw [q2] at h0; exact absurd h0 (Nat.lt_irrefl _)⟩
  | true =>
    have hv : witsV l = wits l := by rw [witsV, hk]; rfl
    have hvn : (witsV l).length = l.length := by rw [hv, wits_len]
    have hz := okPs_len hk
    have hm := okPs_sm hk
    have hz2 : l.length ≤ 400000 := by omega
    have hmh := SmL.hull hm
    have el := len_encPs l
    have hlm : l.length ≤ maxLen := by rw [maxLen_eq]; omega
    refine raw_at (args := [.sl 2 (encPs l)]) (t := 2) Try.func7 rfl Try.results7 (by rw [Try.ntmps7]; exact Nat.le_of_ble_eq_true rfl) (by rw [Try.ntmps7]; decide) hAw hargs ?_
    intro F μ κ a hFN hFw hFA hFB R
    rw [Try.ntmps7] at hFN
    have hN := hFN
    refine wp_cutG (T := tab) (G := g_e_hw) (H := []) (D := []) (F := F) ⟨tabOK, mixed, gok_e_hw.toF F, hok_e_hw⟩ 4 ⟨[(4, .ref 14 0 0 true), (3, .sl 2 (encPs (hullP l))), (0, .sl 2 (encPs l))], [(14, some (.arr 1 35 []))]⟩ (by kernel_rfl) R ?_ ?_
    · simp only [V_seq, V_skip, V_region, V_cond, brW_false, W_nil, W_cons, effOp2, KN_seq, KN_back, asB, effOp, effPure, effNew, effMake, effCall, giveUp, hasAll, skipE, pureV, lenV, ofC, strip, lkT, lkH, ISt.app, opI, gO, gB, allB, gval, wrapG, dstOK, setD, mentTm, mentHp, IV.ment, zeroElt, noId', lendV, lendP, lent, lentP, idsV, idsL, lkHS, flat, clean, callArgs, callFn, allLent, enumT, Op.operands, Call.operands, List.append_toArray, reduceIte, reduceCtorEq, cond_true, cond_false, Bool.or_false, Bool.not_true, Nat.reduceLT, Nat.reduceLeDiff, Nat.reduceEqDiff, ne_eq, not_false_eq_true, true_and, and_self, implies_true, List.map_cons, List.map_nil, List.nil_append, List.cons_append, List.append_nil, ex_clo, or_true, or_self, Bool.false_eq_true, tab24, tab26, tab35, hN, isPs_enc, toPs_enc, lk_e_hw_impl_listOk, lk_e_hw_impl_hull, sp_impl_listOk, sp_impl_hull, frontS, front0, enumT, hk, hm, hz2, el]
      repeat refine And.intro (by first | omega | (simp; done) | (simp; omega)) ?_
      exact ⟨id, by simp [SLe, SLe0, convTm, convHp, convB, conv, conv0, lkT, lkH]⟩
    clear R μ κ a
    intro μ κ a wa R
    refine wp_seq ?_
    refine wp_cutG (T := tab) (G := g_e_hw) (H := []) (D := []) (F := F) ⟨tabOK, mixed, gok_e_hw.toF F, hok_e_hw⟩ 1 ⟨[(17, .num .i64 0), (16, .num .i64 l.length), (15, .sl 2 (encPs l)), (4, .ref 14 0 0 true), (3, .sl 2 (encPs (hullP l)))], [(14, some (.arr 1 35 []))]⟩ (by kernel_rfl) R ?_ ?_
    · simp only [V_seq, V_skip, V_region, W_nil, W_cons, effOp2, KN_seq, KN_back, effOp, effPure, pureV, lenV, ofC, strip, lkT, ISt.app, opI, gO, gB, allB, gval, wrapG, dstOK, setD, Op.operands, Call.operands, List.append_toArray, reduceIte, reduceCtorEq, Nat.reduceLT, Nat.reduceEqDiff, ne_eq, not_false_eq_true, true_and, and_self, implies_true, List.nil_append, List.cons_append, tab26, hN, frontS, front0, el]
      repeat refine And.intro (by first | omega | (simp; done) | (simp; omega)) ?_
      exact ⟨id, by simp [SLe, SLe0, convTm, convHp, convB, conv, conv0, lkT, lkH, clean]⟩
    clear R μ κ a
    intro μ κ a wa R
    refine wp_block ?_
    refine wp_rounds (fun m a w' => ∃ (i : Nat) (F : Fr) (μ κ : Nat → Nat) (vs : List IV) (β : Nat → Nat), m = l.length - i ∧ i ≤ l.length ∧ F.N = 29 ∧ (∀ b, F.A b ↔ A b ∨ NB i (wN l) β b) ∧ (∀ b, F.B0 b → w.heap.size ≤ b ∧ ¬ NB i (wN l) β b) ∧
        RepS F μ κ ⟨[(17, .num .i64 i), (16, .num .i64 l.length), (15, .sl 2 (encPs l)), (4, .ref 14 0 i true), (3, .sl 2 (encPs (hullP l)))], [(14, some (.arr 1 35 vs))]⟩ a w' ∧
        Nest F.w0 vs i (wL l) (wN l) β ∧ (∀ b, NB i (wN l) β b → w.heap.size ≤ b) ∧ Chg (fun _ => False) w F.w0) l.length ?_ ?_
    · have hn0 : ∀ b, ¬ NB 0 (wN l) (fun _ => 0) b := by rintro b ⟨j, hj, _⟩; exact absurd hj (Nat.not_lt_zero _)
      exact ⟨0, F, μ, κ, [], fun _ => 0, rfl, Nat.zero_le _, hN, fun b => by rw [hFA]; exact ⟨.inl, fun h => h.resolve_right (hn0 b)⟩, fun b h => by rw [hFB] at h; exact h.elim, R, ⟨rfl, fun j hj => rfl, fun j hj => absurd hj (Nat.not_lt_zero _), fun i j hi => absurd hi (Nat.not_lt_zero _)⟩, fun b h => absurd h (hn0 b), by rw [hFw]; exact Chg.refl _ _⟩
    · clear R wa a κ μ hFB hFA hFw hN hFN F
      rintro m a wa ⟨i, F, μ, κ, vs, β, rfl, hi, hN, hFA, hFB, R, hn0, hnb, hca⟩
      have hvl := hn0.vl
      by_cases hin : i < l.length
      · have hd : decide ((i : Int) < (l.length : Int)) = true := by simpa using hin
        have hw := wr_succ hin hlm
        have g0 := getD_encPs hin
        have s0 := hm.at i
        have hwi : wL l i = witP (hullP l) (pAt l i) := by show wAt (witsV l) i = _; rw [hv, wits_at hin]
        obtain ⟨p, hp⟩ : ∃ p, pAt l i = p := ⟨_, rfl⟩
        rw [hp] at g0 s0 hwi
        refine wp_cutG (T := tab) (G := g_e_hw) (H := []) (D := []) (F := F) ⟨tabOK, mixed, gok_e_hw.toF F, hok_e_hw⟩ 2 ⟨[(17, .num .i64 i), (16, .num .i64 l.length), (15, .sl 2 (encPs l)), (4, .ref 14 0 i true), (3, .sl 2 (encPs (hullP l)))], [(14, some (.arr 1 35 vs))]⟩ (by kernel_rfl) R ?_ ?_
        · simp only [V_seq, V_skip, V_region, V_cond, brW_true, W_nil, W_cons, effOp2, KN_seq, KN_back, asB, effOp, effPure, pureV, binV, strip, lkT, ISt.app, opI, gO, gB, allB, gval, wrapG, dstOK, setD, Op.operands, reduceIte, Nat.reduceLT, Nat.reduceEqDiff, true_and, and_self, implies_true, List.nil_append, List.cons_append, hN, frontS, front0, hd]
          repeat refine And.intro (by first | omega | (simp; done) | (simp; omega)) ?_
          exact ⟨id, by simp [SLe, SLe0, convTm, convHp, convB, conv, conv0, lkT, lkH, clean]⟩
        clear R μ κ a
        intro μ κ a wb R
        refine wp_seq (wp_block ?_)
        refine wp_cutG (T := tab) (G := g_e_hw) (H := []) (D := []) (F := F) ⟨tabOK, mixed, gok_e_hw.toF F, hok_e_hw⟩ 1 ⟨[(6, .ptr 6 0), (17, .num .i64 i), (16, .num .i64 l.length), (15, .sl 2 (encPs l)), (4, .ref 14 0 i true), (3, .sl 2 (encPs (hullP l)))], [(6, some (.box 38 [.num .i64 p.1, .num .i64 p.2])), (14, some (.arr 1 35 vs))]⟩ (by kernel_rfl) R ?_ ?_
        · have hil : ((i : Int) < (l.length : Int)) = True := by simpa using hin
          simp only [V_seq, V_skip, V_region, W_nil, W_cons, effOp2, KN_seq, KN_back, effOp, effPure, effNew, effAlloc, effStore, skipE, pureV, storeV, partV, eltV, loadV, iaddrV, over, solid, IV.cells, strip, lkT, lkH, ISt.app, opI, gO, gB, allB, gval, wrapG, dstOK, setD, mentTm, mentHp, IV.ment, IV.mentL, oneI, Op.operands, reduceIte, reduceCtorEq, cond_true, Bool.or_false, Bool.and_true, Nat.reduceAdd, Nat.reduceLT, Nat.reduceLeDiff, Nat.reduceEqDiff, Nat.reduceBEq, Nat.zero_add, ne_eq, not_false_eq_true, true_and, and_true, and_false, and_self, implies_true, forall_const, List.nil_append, List.cons_append, List.append_nil, List.all_cons, List.all_nil, List.getD_cons_zero, List.length_cons, List.length_nil, List.take_succ_cons, List.take_zero, List.take_nil, List.drop_succ_cons, List.drop_zero, List.drop_nil, tab26, tab38, hN, Int.toNat_natCast, frontS, front0, el, g0, hil]
          repeat refine And.intro (by first | omega | (simp; done) | (simp; omega)) ?_
          exact ⟨id, by simp [SLe, SLe0, convTm, convHp, convB, conv, conv0, convL, lkT, lkH, clean]⟩
        clear R μ κ a
        intro μ κ a wb R
        refine wp_region_list ?_
        refine wpList_front (T := tab) (G := g_e_hw) (H := []) (D := []) (F := F) ⟨tabOK, mixed, gok_e_hw.toF F, hok_e_hw⟩ (X := fun _ _ => False) ⟨[(21, .ref 14 0 i true), (22, .sl 2 (encPs (hullP l))), (23, encP p), (17, .num .i64 i), (16, .num .i64 l.length), (15, .sl 2 (encPs l)), (3, .sl 2 (encPs (hullP l)))], [(14, some (.arr 1 35 vs))]⟩ 3 _ _ _ _ _ _ R ?_ ?_
        · simp only [W_nil, W_cons, effOp2, KN_back, effOp, effPure, pureV, partV, loadV, strip, lkT, lkH, ISt.app, opI, gO, gB, allB, gval, wrapG, dstOK, setD, Op.operands, reduceIte, Nat.reduceAdd, Nat.reduceLT, Nat.reduceLeDiff, Nat.reduceEqDiff, Nat.zero_add, true_and, and_false, and_self, implies_true, List.nil_append, List.cons_append, List.getD_cons_zero, List.length_cons, List.length_nil, List.take_succ_cons, List.take_zero, List.take_nil, List.drop_zero, tab38, hN, encP, List.take_succ_cons, List.take_zero]
          repeat refine And.intro (by first | omega | (simp; done) | (simp; omega)) ?_
          exact ⟨id, by simp [SLe, SLe0, convTm, convHp, convB, conv, conv0, convL, lkT, lkH, clean]⟩
        clear R μ κ a
        intro μ κ a wc R
        have hcc := R.chg
        have hcw : Chg (fun _ => False) w wc := hca.trans hcc (fun _ h => h) (fun b hb h => by have := (hFB b h).1; omega)
        have hn2 := hn0.chg hcc (fun b hb h => (hFB b h).2 hb)
        have hav : ∀ b, avOf F μ [(14, some (.arr 1 35 vs))] b → b < wc.heap.size := by
          rintro b (h | ⟨id, hid, rfl⟩)
          · exact Nat.lt_of_lt_of_le (F.hA b h) R.chg.size
          · cases hb : lkH [(14, some (IBlk.arr 1 35 vs))] id with
            | none => exact absurd hb hid
            | some blk => exact lt_of_own R hb
        have hle : (ctx F μ κ [(14, some (.arr 1 35 vs))] wc).Le (bare (avOf F μ [(14, some (.arr 1 35 vs))]) wc) (fun _ => True) :=
          ⟨fun _ _ => .inl rfl, fun b _ h => h, Nat.le_refl _, fun _ _ _ _ => rfl⟩
        have hL : RepL (bare (avOf F μ [(14, some (.arr 1 35 vs))]) wc) [.sl 2 (encPs (hullP l)), encP p] [a.tmps.getD 22 undef, a.tmps.getD 23 undef] := by
          simp only [RepL]
          exact ⟨_, _, rfl, RepV.mono hle _ _ (fun _ _ => trivial) (R.tmps 22), _, _, rfl, RepV.mono hle _ _ (fun _ _ => trivial) (R.tmps 23), rfl⟩
        refine wpList_call (f := 19) rfl rfl en_impl_witness ?_
        show Calls _ _ ⟨[a.tmps.getD 22 undef, a.tmps.getD 23 undef]⟩ _ _
        refine (wit_step hmh s0 hav hL).mono ?_
        rintro e w' ⟨y, rfl, hcy, v, b, hvy, hev, hbn⟩
        refine ⟨y, rfl, ?_⟩
        have hwle : F.w0.heap.size ≤ w'.heap.size := Nat.le_trans hcc.size hcy.size
        have hww : w.heap.size ≤ wc.heap.size := hcw.size
        have hlen : wN l i = (witP (hullP l) p).length := by show (wL l i).length = _; rw [hwi]
        rw [← hwi] at hev
        rw [← hlen] at hbn
        have hn3 := hn2.chg hcy (fun _ _ h => h)
        have hn4 : Nest w' (vs ++ [v]) (i + 1) (wL l) (wN l) (fun j => if j = i then b else β j) := hn3.snoc rfl hev (fun h0 hb => by have := hn2.lt hb; have := hbn h0; omega)
        have hnb4 : ∀ x, NB (i + 1) (wN l) (fun j => if j = i then b else β j) x → w.heap.size ≤ x := fun x h => by
          rcases NB_snoc h with h | ⟨h0, rfl⟩
          · exact hnb x h
          · have := hbn h0; omega
        obtain ⟨a0, c0, hv0⟩ := hev.form
        obtain ⟨F', hN', hFA', hFB', hFw', R'⟩ : ∃ F' : Fr, F'.N = 29 ∧ (∀ x, F'.A x ↔ A x ∨ NB (i + 1) (wN l) (fun j => if j = i then b else β j) x) ∧ (∀ x, F'.B0 x → w.heap.size ≤ x ∧ ¬ NB (i + 1) (wN l) (fun j => if j = i then b else β j) x) ∧ F'.w0 = w' ∧
            RepS F' μ κ ⟨[(21, .ref 14 0 i true), (22, .sl 2 (encPs (hullP l))), (23, encP p), (17, .num .i64 i), (16, .num .i64 l.length), (15, .sl 2 (encPs l)), (3, .sl 2 (encPs (hullP l)))], [(14, some (.arr 1 35 vs))]⟩ a w' := by
          refine ⟨{ A := fun x => A x ∨ NB (i + 1) (wN l) (fun j => if j = i then b else β j) x, B0 := fun x => w.heap.size ≤ x ∧ x < w'.heap.size ∧ ¬ NB (i + 1) (wN l) (fun j => if j = i then b else β j) x, w0 := w', N := F.N, hAB := fun x h h2 => h.elim (fun h => by have := hAw x h; omega) (fun h => h2.2.2 h), hA := fun x h => h.elim (fun h => by have := hAw x h; have := hcy.size; omega) (fun h => hn4.lt h), hB := fun x h => h.2.1, μ0 := F.μ0, κ0 := F.κ0, hN := F.hN }, hN, fun x => Iff.rfl, fun x h => ⟨h.1, h.2.2⟩, rfl, ?_⟩
          refine R.reframe _ rfl rfl rfl rfl (fun _ => False) hcy (fun _ h => h.elim) ?_ ?_
          · rintro x hx (h | h)
            · exact .inl ((hFA x).2 (.inl h))
            · rcases NB_snoc h with h | ⟨h0, rfl⟩
              · exact .inl ((hFA x).2 (.inr h))
              · have := hbn h0; omega
          · intro id hid
            cases hb : lkH [(14, some (IBlk.arr 1 35 vs))] id with
            | none => exact absurd hb hid
            | some blk =>
              have h1 := lt_of_own R hb
              obtain ⟨_, h2, h3⟩ := R.own id blk hb
              have h4 : w.heap.size ≤ μ id := by
                rcases h3 with h3 | h3
                · exact (hFB _ h3).1
                · exact Nat.le_trans hca.size h3
              have h5 : ¬ NB (i + 1) (wN l) (fun j => if j = i then b else β j) (μ id) := fun h => by
                rcases NB_snoc h with h | ⟨h0, h⟩
                · exact h2 ((hFA _).2 (.inr h))
                · have := hbn h0; omega
              exact ⟨fun h => h.elim (fun h => h2 ((hFA _).2 (.inl h))) h5, h4, Nat.lt_of_lt_of_le h1 hcy.size, h5⟩
        have R2 := R'.put (d := 24) (x := v) (v := y) (hvy _) (by rw [hN']; decide)
        have hca' : Chg (fun _ => False) w w' := hcw.trans hcy (fun _ h => h) (fun _ _ h => h)
        rw [hv0] at R2
        rw [hv0] at hn4
        clear R R' hN hFA hFB hn0 hn2 hn3 hcc hL hle hav hca hcw hev
        have hN := hN'
        clear hN'
        generalize (wL l i).length = nn at R2 hn4
        refine wpList_front (T := tab) (G := g_e_hw) (H := []) (D := []) (F := F') ⟨tabOK, mixed, gok_e_hw.toF F', hok_e_hw⟩ (X := fun _ _ => False) ⟨[(17, .num .i64 i), (16, .num .i64 l.length), (15, .sl 2 (encPs l)), (4, .ref 14 0 ((i + 1 : Nat) : Nat) true), (3, .sl 2 (encPs (hullP l)))], [(14, some (.arr 1 35 (vs ++ [.lsl a0 nn c0])))]⟩ 3 _ _ _ _ _ _ R2 ?_ ?_
        · have hvt : vs.take i = vs := List.take_of_length_le (by omega)
          simp only [W_nil, W_cons, effOp2, KN_back, effOp, effPure, effNew, effBuildSlice, effFrz, frz, tmpsOf, effAppend, effZeros, skipE, pureV, srcV, refId, strip, lkT, lkH, ISt.app, opI, gO, gB, allB, gval, wrapG, dstOK, setD, mentTm, mentHp, IV.ment, IV.mentL, partsL, eltsI, eltI, noId', Op.operands, reduceIte, reduceCtorEq, cond_true, Bool.or_false, Nat.reduceMul, Nat.reduceLT, Nat.reduceLeDiff, Nat.reduceEqDiff, Nat.reduceBEq, Nat.zero_add, ne_eq, not_false_eq_true, true_and, and_true, and_self, implies_true, List.nil_append, List.cons_append, List.append_nil, Option.some.injEq, List.length_cons, List.length_nil, List.take_succ_cons, List.take_nil, List.drop_zero, tab24, tab35, hN, encP, List.take_succ_cons, hvl, hvt]
          repeat refine And.intro (by first | omega | (simp; done) | (simp; omega)) ?_
          exact ⟨fun x => if x = 14 then 26 else x, by simp [SLe, SLe0, convTm, convHp, convB, conv, conv0, lkT, lkH, clean]; exact ⟨(List.take_of_length_le (by simp)).symm, fun id q1 q2 q3 => by omega⟩⟩
        intro μ κ a wd R
        change Code.wp _ (Code.region _ _ _) _ _ _
        refine wp_segE (T := tab) (G := g_e_hw) (H := []) (D := []) (F := F') ⟨tabOK, mixed, gok_e_hw.toF F', hok_e_hw⟩ .normal ⟨[(17, .num .i64 ((i + 1 : Nat) : Int)), (16, .num .i64 l.length), (15, .sl 2 (encPs l)), (4, .ref 14 0 (i + 1) true), (3, .sl 2 (encPs (hullP l)))], [(14, some (.arr 1 35 (vs ++ [.lsl a0 nn c0])))]⟩ (by kernel_rfl) R ?_ ?_
        · simp only [V_region, W_nil, W_cons, effOp2, KN_nil, QE, effOp, effPure, pureV, binV, ofC, strip, lkT, ISt.app, opI, gO, gB, allB, gval, wrapG, dstOK, setD, Op.operands, reduceIte, Nat.reduceLT, Nat.reduceEqDiff, true_and, and_self, implies_true, List.nil_append, List.cons_append, hN, hw]
          repeat refine And.intro (by first | omega | (simp; done) | (simp; omega)) ?_
          exact ⟨id, by simp [SLe, SLe0, convTm, convHp, convB, conv, conv0, lkT, lkH, clean]; exact (List.take_of_length_le (by simp)).symm⟩
        intro μ κ a we R
        exact ⟨l.length - (i + 1), by omega, i + 1, F', μ, κ, _, _, rfl, hin, hN, hFA', hFB', R, by rw [hFw']; exact hn4, hnb4, by rw [hFw']; exact hca'⟩
      · have hie : i = l.length := by omega
        have hd : decide ((i : Int) < (l.length : Int)) = false := by simpa using hin
        refine wp_segE (T := tab) (G := g_e_hw) (H := []) (D := []) (F := F) ⟨tabOK, mixed, gok_e_hw.toF F, hok_e_hw⟩ (.exit 0) ⟨[(4, .ref 14 0 i true)], [(14, some (.arr 1 35 vs))]⟩ (by kernel_rfl) R ?_ ?_
        · simp only [V_seq, V_exit, V_region, V_cond, brW_false, W_nil, W_cons, effOp2, KN_seq, KXe_nil, KXe_seq, QE, asB, effOp, effPure, pureV, binV, strip, lkT, ISt.app, opI, gO, gB, allB, gval, wrapG, dstOK, setD, Op.operands, reduceIte, Nat.reduceLT, Nat.reduceEqDiff, true_and, and_self, implies_true, List.nil_append, List.cons_append, hN, hd]
          repeat refine And.intro (by first | omega | (simp; done) | (simp; omega)) ?_
          exact ⟨id, by simp [SLe, SLe0, convTm, convHp, convB, conv, conv0, lkT, lkH]⟩
        clear R μ κ a
        intro μ κ a wb R
        change Code.wp _ (Code.seq _ _) _ _ _
        refine wp_segE (T := tab) (G := g_e_hw) (H := []) (D := []) (F := F) ⟨tabOK, mixed, gok_e_hw.toF F, hok_e_hw⟩ .ret ⟨[(2, .ref 14 0 i true)], [(14, some (.arr 1 35 vs))]⟩ (by kernel_rfl) R ?_ ?_
        · simp only [V_seq, V_ret, V_region, W_nil, W_cons, effOp2, KN_seq, KXr_nil, QE, effOp, effPure, pureV, strip, lkT, ISt.app, opI, gO, gB, allB, gval, wrapG, dstOK, setD, Op.operands, reduceIte, Nat.reduceLT, Nat.reduceEqDiff, true_and, and_self, implies_true, List.nil_append, List.cons_append, hN]
          repeat refine And.intro (by first | omega | (simp; done) | (simp; omega)) ?_
          exact ⟨id, by simp [SLe, SLe0, convTm, convHp, convB, conv, conv0, lkT, lkH]⟩
        clear R μ κ a
        intro μ κ a we R
        have hce := R.chg
        have hcw : Chg (fun _ => False) w we := hca.trans hce (fun _ h => h) (fun b hb h => by have := (hFB b h).1; omega)
        have hn2 := hn0.chg hce (fun b hb h => (hFB b h).2 hb)
        rw [hie, ← hvn] at hn2
        have hnb2 : ∀ b, NB (witsV l).length (wN l) β b → w.heap.size ≤ b := by rw [hvn, ← hie]; exact hnb
        refine ⟨.inr rfl, R.defers, hcw, vs, β, hn2, hnb2, ?_⟩
        have hs : noSlL vs = true := noSlL_getD fun j hj => by
          obtain ⟨a0, c0, h⟩ := (hn0.elt j (by omega)).form
          rw [h]; rfl
        obtain ⟨_, h2, h3⟩ := R.own 14 _ rfl
        refine ref_val R (id := 14) (n := i) rfl hvl.symm hs (R.tmps 2) _ ?_
        rintro (h | h)
        · rcases h3 with h3 | h3
          · have := (hFB _ h3).1; omega
          · have := hca.size; omega
        · rw [hvn, ← hie] at h
          exact h2 ((hFA _).2 (.inr h))
theorem en_impl_HullWitness_raw : Enters Try.prog 7 := en_impl_HullWitness
end Go.Proofs.Ytiadicmnbjaknaa
