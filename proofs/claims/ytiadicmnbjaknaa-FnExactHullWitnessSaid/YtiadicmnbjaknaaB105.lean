/- FnExactHullWitness: the program's HullWitness is the reference's; its memory is its own. -/
import Derived.Test.YtiadicmnbjaknaaB104
set_option linter.unusedVariables false
set_option linter.unusedSimpArgs false
set_option maxHeartbeats 8000000
set_option maxRecDepth 100000
namespace Go.Proofs.Ytiadicmnbjaknaa
open Go Go.Ideal Go.Pl Go.Sort

/-! lists of lists that are marked, looked at by value -/
def lenOf (L : List (List Int)) (j : Nat) : Nat := (wAt L j).length
def Marked (L : List (List Int)) (k : Int) : Prop := ∀ i, i < L.length → wAt L i = marksI (lenOf L i) (k + (tot (lenOf L) i : Int))
def g_laws_heldIntSS : List (Nat × PSpec) := [(23, sp_laws_heldIntS)]
theorem gok_laws_heldIntSS : GOK Try.prog g_laws_heldIntSS := gok_cons gk_laws_heldIntS en_laws_heldIntS (gok0)
theorem lk_laws_heldIntSS_laws_heldIntS : lkG g_laws_heldIntSS 23 = sp_laws_heldIntS := rfl
def h_laws_heldIntSS : List (Nat × HSpec) := []
theorem hok_laws_heldIntSS : HOK Try.prog h_laws_heldIntSS := hok0
theorem c_laws_heldIntSS (L : List (List Int)) (k : Int) (hm : Marked L k) (h0 : 0 ≤ k) (h1 : k + (tot (lenOf L) L.length : Int) ≤ 2000000) (h2 : L.length ≤ 2000000) : ICall Try.prog 12 [.sl 1 (encLI L), .num .i64 k] (.num .i64 (k + (tot (lenOf L) L.length : Int))) := by
  refine icall_V (G := g_laws_heldIntSS) (H := []) [] tabOK mixed gok_laws_heldIntSS hok_laws_heldIntSS Try.func12 rfl Try.ntmps12 Try.results12 rfl (by kernel_rfl) fun F hN hlen => ?_
  have el := len_encLI L
  simp only [V_seq, V_block, V_region, W_nil, W_cons, effOp2, KN_seq, effOp, effPure, pureV, ofC, strip, ISt.app, opI, gO, gB, allB, gval, wrapG, dstOK, setD, enumT, Op.operands, Nat.reduceLT, Nat.zero_add, true_and, and_self, implies_true, List.nil_append, List.cons_append, List.append_nil, hN]
  refine V_loop (α := Nat) ⟨tabOK, mixed, gok_laws_heldIntSS.toF F, hok_laws_heldIntSS⟩ (by kernel_rfl) (fun i => i ≤ L.length) (fun i => ⟨[(5, .num .i64 i), (0, .sl 1 (encLI L)), (1, .num .i64 (k + (tot (lenOf L) i : Int)))], []⟩) (fun i => L.length - i) 0 id (Nat.zero_le _) (by simp [SLe, SLe0, convTm, convHp, conv, conv0, lkT, lkH, clean, tot]) ?_
  intro i hi
  simp only [V_seq, V_region, V_cond, W_nil, W_cons, effOp2, KN_seq, asB, effOp, effPure, pureV, binV, lenV, strip, lkT, ISt.app, opI, gO, gB, allB, gval, wrapG, dstOK, setD, Op.operands, Call.operands, List.append_toArray, reduceIte, reduceCtorEq, Nat.reduceLT, Nat.reduceEqDiff, ne_eq, not_false_eq_true, true_and, and_self, implies_true, List.nil_append, List.cons_append, List.append_nil, tab24, hN, el]
  refine brW_some (fun h => ?_) (fun h => ?_)
  · have hi' : i < L.length := by simpa using h
    have g0 := getD_encLI hi'
    have hw := wr_succ hi' (by rw [maxLen_eq]; omega)
    have hx := hm i hi'
    have hmo := tot_mono (len := lenOf L) (show i + 1 ≤ L.length from hi')
    have ht : tot (lenOf L) (i + 1) = tot (lenOf L) i + lenOf L i := rfl
    have hh : heldI (wAt L i) (k + (tot (lenOf L) i : Int)) = k + (tot (lenOf L) (i + 1) : Int) := by rw [hx, heldI_marks, ht]; omega
    have hl : (wAt L i).length ≤ 2000000 := by show lenOf L i ≤ _; omega
    have d1 : decide (k + (tot (lenOf L) (i + 1) : Int) < 0) = false := by simp only [decide_eq_false_iff_not]; omega
    have k0 : 0 ≤ k + (tot (lenOf L) i : Int) := by omega
    have k1 : k + (tot (lenOf L) i : Int) ≤ 2000000 := by omega
    obtain ⟨x, hx0⟩ : ∃ x, wAt L i = x := ⟨_, rfl⟩
    rw [hx0] at g0 hh hl
    simp only [V_seq, V_skip, V_block, V_region, V_cond, brW_false, W_nil, W_cons, effOp2, KN_seq, KN_block, KN_back, asB, effOp, effPure, effCall, giveUp, hasAll, pureV, binV, eltV, loadV, iaddrV, ofC, strip, lkT, lkH, ISt.app, opI, gO, gB, allB, gval, wrapG, dstOK, setD, lendV, lendP, lent, lentP, idsV, idsL, lkHS, flat, clean, callArgs, callFn, allLent, Op.operands, reduceIte, reduceCtorEq, cond_true, Bool.or_false, Bool.not_true, Nat.reduceLT, Nat.reduceEqDiff, ne_eq, not_false_eq_true, true_and, and_true, and_self, implies_true, forall_const, List.map_cons, List.map_nil, List.nil_append, List.cons_append, List.append_nil, ex_clo, or_self, tab24, tab35, hN, Int.toNat_natCast, isIs_enc, toIs_enc, lk_laws_heldIntSS_laws_heldIntS, sp_laws_heldIntS, el, g0, hw, hh, hl, d1, k0, k1]
    repeat refine And.intro (by first | omega | (simp; done) | (simp; omega)) ?_
    exact ⟨i + 1, id, by simp only []; omega, by simp only []; omega, by simp [SLe, SLe0, convTm, convHp, conv, conv0, lkT, lkH, clean]⟩
  · have hie : i = L.length := by simp at h; omega
    subst hie
    simp only [V_seq, V_ret, V_exit, V_region, W_nil, W_cons, effOp2, KN_seq, KXr_nil, KXe_nil, KXe_seq, KXe_block, KXe_back, QE, effOp, effPure, pureV, strip, lkT, lkH, ISt.app, opI, gO, gB, allB, gval, wrapG, dstOK, setD, clean, Gives, Ideal.Fin, conv, conv0, Op.operands, reduceIte, reduceCtorEq, Nat.reduceLT, Nat.reduceEqDiff, and_self, implies_true, List.nil_append, List.cons_append, List.append_nil, hN]
def sp_laws_heldIntSS : PSpec := ⟨fun xs => match xs with | [.sl 1 Les, .num .i64 k] => isLI Les ∧ ((fun (L : List (List Int)) (k : Int) => Marked L k) (toLI Les) k) ∧ ((fun (L : List (List Int)) (k : Int) => 0 ≤ k) (toLI Les) k) ∧ ((fun (L : List (List Int)) (k : Int) => k + (tot (lenOf L) L.length : Int) ≤ 2000000) (toLI Les) k) ∧ ((fun (L : List (List Int)) (k : Int) => L.length ≤ 2000000) (toLI Les) k) | _ => False, fun xs => match xs with | [.sl _ Les, .num _ k] => (fun (L : List (List Int)) (k : Int) => .num .i64 (k + (tot (lenOf L) L.length : Int))) (toLI Les) k | _ => .junk, false⟩
theorem gk_laws_heldIntSS : ∀ args, sp_laws_heldIntSS.pre args → ICall Try.prog 12 args (sp_laws_heldIntSS.val args) := by
  intro args h
  unfold sp_laws_heldIntSS at h ⊢; simp only at h ⊢; split at h
  · obtain ⟨h0, h1, h2, h3, h4⟩ := h
    obtain ⟨l0, rfl⟩ := isLI_ex h0
    try simp only [toLI_enc] at *
    exact c_laws_heldIntSS _ _ h1 h2 h3 h4
  · exact h.elim
theorem en_laws_heldIntSS : Enters Try.prog 12 := enters_of Try.func12 (by kernel_rfl) rfl


/-! the frame's own contract -/
theorem gokF_cons {P : Program} {F : Fr} {f : Nat} {sp : PSpec} {G : List (Nat × PSpec)} (h : ∀ args, sp.pre args → ∀ (A : Nat → Prop) (w : World) (vals : List Value), Chg F.B0 F.w0 w → (∀ b, A b → b < w.heap.size) → RepL (bare A w) args vals →
      Calls P f ⟨vals⟩ w fun e w' => ∃ x, e = .returned x ∧ Chg (fun _ => False) w w' ∧ RepV (bare A w') (sp.val args) x) (he : Enters P f) (ho : sp.own = false) (hG : GOKF P F G) : GOKF P F ((f, sp) :: G) := by
  intro g args hp
  simp only [lkG] at hp ⊢
  by_cases e : f = g
  · subst e
    simp only [if_true] at hp ⊢
    exact ⟨⟨h args hp, fun hw => by rw [ho] at hw; cases hw⟩, he⟩
  · simp only [if_neg e] at hp ⊢
    exact hG g args hp
def spN (vs : List IV) (L : List (List Int)) : PSpec := ⟨fun xs => xs = [.sl 1 vs, .sl 1 (encLI L)], fun _ => .bool true, false⟩
theorem gokN {F : Fr} {vs : List IV} {n : Nat} {ell : Nat → List Int} {len β : Nat → Nat} {L : List (List Int)} {G : List (Nat × PSpec)} (hQ : Nest F.w0 vs n ell len β) (hB : ∀ b, NB n len β b → ¬ F.B0 b) (hn : L.length = n) (hL : ∀ j, j < n → ell j = wAt L j) (hG : GOKF Try.prog F G) :
    GOKF Try.prog F ((8, spN vs L) :: G) := by
  refine gokF_cons ?_ en_laws_eqIntSS rfl hG
  rintro args rfl A w vals hc hA hR
  have hle : (bare A w).Le (bare (fun _ => False) w) (fun _ => True) := ⟨fun _ _ => .inl rfl, fun _ _ h => h.elim, Nat.le_refl _, fun _ _ _ _ => rfl⟩
  have hR1 := RepL.mono hle _ _ (fun _ _ => trivial) hR
  simp only [RepL] at hR1
  obtain ⟨v, r, rfl, hv, u, r2, rfl, hu, rfl⟩ := hR1
  have hQ' : Nest (bare (fun _ => False) w).w vs n ell len β := hQ.chg hc hB
  have hv2 := hQ'.val hn hL hv (fun _ _ h => h)
  have hargs : RepL (bare (fun _ => False) w) [.sl 1 (encLI L), .sl 1 (encLI L)] [v, u] := by
    simp only [RepL]
    exact ⟨_, _, rfl, hv2, _, _, rfl, hu, rfl⟩
  refine (c_laws_eqIntSS L L (fun _ => False) w [v, u] (fun _ h => h.elim) hargs).mono ?_
  rintro e w' ⟨x, he, hcx, hx⟩
  refine ⟨x, he, hcx, ?_⟩
  simp only [RepV] at hx
  rw [hx]
  show RepV _ (.bool true) _
  simp [RepV]

/-- A slot, seen otherwise. -/
theorem repS_tag {F : Fr} {μ κ : Nat → Nat} {s : ISt} {a : Act} {w : World} (R : RepS F μ κ s a w) {i : Nat} {y : IV} (hv : RepV (ctx F μ κ s.hp w) y (a.tmps.getD i undef)) : RepS F μ κ ⟨(i, y) :: s.tm, s.hp⟩ a w := by
  refine ⟨R.defers, R.size, R.chg, R.inj, R.own, fun j => ?_, R.pin⟩
  simp only [lkT]
  split
  · rename_i e; rw [← e]; exact hv
  · exact R.tmps j

theorem tot_le {len : Nat → Nat} (h : ∀ j, len j ≤ 3) : ∀ n, tot len n ≤ 3 * n
  | 0 => Nat.le_refl _
  | n + 1 => by have := tot_le h n; have := h n; simp only [tot]; omega
theorem tot_congr {f g : Nat → Nat} : ∀ {n : Nat}, (∀ j, j < n → f j = g j) → tot f n = tot g n
  | 0, _ => rfl
  | n + 1, h => by simp only [tot]; rw [tot_congr (fun j hj => h j (by omega)), h n (by omega)]
theorem wN_le (l : List Pt) (j : Nat) : wN l j ≤ 3 := by
  show (wAt (witsV l) j).length ≤ 3
  unfold witsV
  by_cases hj : j < l.length
  · split
    · rw [wits_at hj]; exact witP_len _ _
    · simp [wAt]
  · split
    · simp only [wAt, List.getD]
      rw [List.getElem?_eq_none (by rw [wits_len]; omega)]
      simp
    · simp [wAt]
theorem witsV_len (l : List Pt) : (witsV l).length ≤ 20 := by
  unfold witsV
  split
  · rename_i h; rw [wits_len]; exact okPs_len h
  · simp
/-- What the marks are. -/
def mksL (l : List Pt) : List (List Int) := (List.range (witsV l).length).map fun j => marksI (wN l j) (1 + (tot (wN l) j : Int))
theorem mksL_len (l : List Pt) : (mksL l).length = (witsV l).length := by simp [mksL]
theorem mksL_at {l : List Pt} {j : Nat} (h : j < (witsV l).length) : wAt (mksL l) j = marksI (wN l j) (1 + (tot (wN l) j : Int)) := by
  simp [mksL, wAt, List.getD, h]
theorem mksL_lenOf {l : List Pt} {j : Nat} (h : j < (witsV l).length) : lenOf (mksL l) j = wN l j := by rw [lenOf, mksL_at h, marksI_len]
theorem mksL_tot {l : List Pt} {n : Nat} (h : n ≤ (witsV l).length) : tot (lenOf (mksL l)) n = tot (wN l) n := tot_congr fun j hj => mksL_lenOf (by omega)
theorem mksL_marked (l : List Pt) : Marked (mksL l) 1 := by
  intro i hi
  rw [mksL_len] at hi
  rw [mksL_at hi, mksL_lenOf hi, mksL_tot (by omega)]

def g_e_la : List (Nat × PSpec) := [(4, sp_laws_szPointS), (5, sp_spec_HullWitness)]
theorem gok_e_la : GOK Try.prog g_e_la := gok_cons gk_laws_szPointS en_laws_szPointS (gok_cons gk_spec_HullWitness en_spec_HullWitness (gok0))
theorem lk_e_la_laws_szPointS : lkG g_e_la 4 = sp_laws_szPointS := rfl
theorem lk_e_la_spec_HullWitness : lkG g_e_la 5 = sp_spec_HullWitness := rfl
def h_e_la : List (Nat × HSpec) := [(6, hs_laws_toPointS)]
theorem hok_e_la : HOK Try.prog h_e_la := hok_cons hk_laws_toPointS en_laws_toPointS (hok0)
theorem lh_e_la_laws_szPointS : lkHS h_e_la 4 = none := rfl
theorem lh_e_la_spec_HullWitness : lkHS h_e_la 5 = none := rfl
theorem lh_e_la_laws_toPointS : lkHS h_e_la 6 = some hs_laws_toPointS := rfl
def g_e_lc : List (Nat × PSpec) := [(9, sp_laws_eqPointS)]
theorem gok_e_lc : GOK Try.prog g_e_lc := gok_cons gk_laws_eqPointS en_laws_eqPointS (gok0)
theorem lk_e_lc_laws_eqPointS : lkG g_e_lc 9 = sp_laws_eqPointS := rfl
def h_e_lc : List (Nat × HSpec) := [(6, hs_laws_toPointS), (10, hs_laws_markPointS)]
theorem hok_e_lc : HOK Try.prog h_e_lc := hok_cons hk_laws_toPointS en_laws_toPointS (hok_cons hk_laws_markPointS en_laws_markPointS (hok0))
theorem lh_e_lc_laws_eqPointS : lkHS h_e_lc 9 = none := rfl
theorem lh_e_lc_laws_toPointS : lkHS h_e_lc 6 = some hs_laws_toPointS := rfl
theorem lh_e_lc_laws_markPointS : lkHS h_e_lc 10 = some hs_laws_markPointS := rfl
def g_e_le : List (Nat × PSpec) := [(12, sp_laws_heldIntSS), (8, sp_laws_eqIntSS), (7, sp_impl_HullWitness)]
theorem gok_e_le : GOK Try.prog g_e_le := gok_cons gk_laws_heldIntSS en_laws_heldIntSS (gok_cons gk_laws_eqIntSS en_laws_eqIntSS (gok_cons gk_impl_HullWitness en_impl_HullWitness (gok0)))
theorem lk_e_le_laws_heldIntSS : lkG g_e_le 12 = sp_laws_heldIntSS := rfl
theorem lk_e_le_laws_eqIntSS : lkG g_e_le 8 = sp_laws_eqIntSS := rfl
theorem lk_e_le_impl_HullWitness : lkG g_e_le 7 = sp_impl_HullWitness := rfl
def h_e_le : List (Nat × HSpec) := [(6, hs_laws_toPointS)]
theorem hok_e_le : HOK Try.prog h_e_le := hok_cons hk_laws_toPointS en_laws_toPointS (hok0)
theorem lh_e_le_laws_heldIntSS : lkHS h_e_le 12 = none := rfl
theorem lh_e_le_laws_eqIntSS : lkHS h_e_le 8 = none := rfl
theorem lh_e_le_impl_HullWitness : lkHS h_e_le 7 = none := rfl
theorem lh_e_le_laws_toPointS : lkHS h_e_le 6 = some hs_laws_toPointS := rfl
theorem lh_lc8 : lkHS h_e_lc 8 = none := rfl
def g_laws_FnExactHullWitness : List (Nat × PSpec) := [(4, sp_laws_szPointS), (5, sp_spec_HullWitness), (7, sp_impl_HullWitness), (8, sp_laws_eqIntSS), (9, sp_laws_eqPointS), (12, sp_laws_heldIntSS)]
theorem gok_laws_FnExactHullWitness : GOK Try.prog g_laws_FnExactHullWitness := gok_cons gk_laws_szPointS en_laws_szPointS (gok_cons gk_spec_HullWitness en_spec_HullWitness (gok_cons gk_impl_HullWitness en_impl_HullWitness (gok_cons gk_laws_eqIntSS en_laws_eqIntSS (gok_cons gk_laws_eqPointS en_laws_eqPointS (gok_cons gk_laws_heldIntSS en_laws_heldIntSS (gok0))))))
theorem lk_laws_FnExactHullWitness_laws_szPointS : lkG g_laws_FnExactHullWitness 4 = sp_laws_szPointS := rfl
theorem lk_laws_FnExactHullWitness_spec_HullWitness : lkG g_laws_FnExactHullWitness 5 = sp_spec_HullWitness := rfl
theorem lk_laws_FnExactHullWitness_impl_HullWitness : lkG g_laws_FnExactHullWitness 7 = sp_impl_HullWitness := rfl
theorem lk_laws_FnExactHullWitness_laws_eqIntSS : lkG g_laws_FnExactHullWitness 8 = sp_laws_eqIntSS := rfl
theorem lk_laws_FnExactHullWitness_laws_eqPointS : lkG g_laws_FnExactHullWitness 9 = sp_laws_eqPointS := rfl
theorem lk_laws_FnExactHullWitness_laws_heldIntSS : lkG g_laws_FnExactHullWitness 12 = sp_laws_heldIntSS := rfl
def h_laws_FnExactHullWitness : List (Nat × HSpec) := [(6, hs_laws_toPointS), (10, hs_laws_markPointS)]
theorem hok_laws_FnExactHullWitness : HOK Try.prog h_laws_FnExactHullWitness := hok_cons hk_laws_toPointS en_laws_toPointS (hok_cons hk_laws_markPointS en_laws_markPointS (hok0))
theorem lh_laws_FnExactHullWitness_laws_szPointS : lkHS h_laws_FnExactHullWitness 4 = none := rfl
theorem lh_laws_FnExactHullWitness_spec_HullWitness : lkHS h_laws_FnExactHullWitness 5 = none := rfl
theorem lh_laws_FnExactHullWitness_impl_HullWitness : lkHS h_laws_FnExactHullWitness 7 = none := rfl
theorem lh_laws_FnExactHullWitness_laws_eqIntSS : lkHS h_laws_FnExactHullWitness 8 = none := rfl
theorem lh_laws_FnExactHullWitness_laws_eqPointS : lkHS h_laws_FnExactHullWitness 9 = none := rfl
theorem lh_laws_FnExactHullWitness_laws_heldIntSS : lkHS h_laws_FnExactHullWitness 12 = none := rfl
theorem lh_laws_FnExactHullWitness_laws_toPointS : lkHS h_laws_FnExactHullWitness 6 = some hs_laws_toPointS := rfl
theorem lh_laws_FnExactHullWitness_laws_markPointS : lkHS h_laws_FnExactHullWitness 10 = some hs_laws_markPointS := rfl
theorem c_laws_FnExactHullWitness (l : List Pt)  : ICall Try.prog 3 [.sl 2 (encPs l)] (.bool true) := by
  by_cases c : l.length ≤ 1048576
  · intro A w vals hAw hargs
    have el := len_encPs l
    have c2 : l.length ≤ 2000000 := by omega
    have hs : ∀ x : List Pt, (x == x) = true := fun x => by simp
    have hv : szPointV l 1048576 = 1048576 - (l.length : Int) := if_neg (by omega)
    have d1 : decide (1048576 - (l.length : Int) < 0) = false := by simp only [decide_eq_false_iff_not]; omega
    refine raw_at (args := [.sl 2 (encPs l)]) (t := 2) (Post := fun x w' => Chg (fun _ => False) w w' ∧ RepV (bare A w') (.bool true) x) Try.func3 rfl Try.results3 (by rw [Try.ntmps3]; exact Nat.le_of_ble_eq_true rfl) (by rw [Try.ntmps3]; decide) hAw hargs ?_
    intro F μ κ a hFN hFw hFA hFB R
    rw [Try.ntmps3] at hFN
    have hN := hFN
    refine wp_cutG (T := tab) (G := g_e_la) (H := h_e_la) (D := []) (F := F) ⟨tabOK, mixed, gok_e_la.toF F, hok_e_la⟩ 6 ⟨[(5, .ref 7 0 l.length true), (4, .sl 1 (encLI (witsV l))), (0, .sl 2 (encPs l))], [(7, some (.arr 2 38 (encPs l)))]⟩ (by kernel_rfl) R ?_ ?_
    · simp only [V_seq, V_skip, V_region, V_cond, brW_false, W_nil, W_cons, effOp2, KN_seq, KN_back, asB, effOp, effPure, effCall, giveUp, hasAll, Option.isSome_some, skipE, pureV, binV, ofC, strip, lkT, lkH, ISt.app, opI, gO, gB, allB, gval, wrapG, dstOK, setD, mentTm, mentHp, IV.ment, lendV, lendP, lent, lentP, idsV, idsL, flat, clean, callArgs, callFn, allLent, enumT, conv, conv0, IBlk.shape, Op.operands, reduceIte, reduceCtorEq, cond_true, cond_false, Bool.or_false, Bool.and_true, Bool.not_true, Bool.not_false, Nat.reduceAdd, Nat.reduceSub, Nat.reduceMul, Nat.reduceLT, Nat.reduceLeDiff, Nat.reduceEqDiff, Nat.reduceBEq, Nat.add_zero, Nat.zero_add, not_false_eq_true, true_and, and_true, and_false, and_self, implies_true, forall_const, List.map_cons, List.map_nil, List.nil_append, List.cons_append, List.append_nil, List.all_nil, Option.map_none, List.drop_zero, ex_clo, true_or, or_true, or_self, Bool.false_eq_true, hN, isPs_enc, toPs_enc, SLe0, convTm, convHp, convB, sm, effH, mkHC0, mkHC1, lendM, lentM, lentI, allHere, addIds, flatIds, reach, posn, renV, renL, renB, renH, numB, subHp, fwd, bk, bwd, nones, keyOK, noSl, flatBs, List.contains, List.elem, Option.isSome_some, List.nodup_nil, List.nodup_cons, List.not_mem_nil, Option.getD_some, lk_e_la_laws_szPointS, lk_e_la_spec_HullWitness, sp_laws_szPointS, sp_spec_HullWitness, lh_e_la_laws_szPointS, lh_e_la_spec_HullWitness, lh_e_la_laws_toPointS, hs_laws_toPointS, frontS, front0, enumT, el, hv, d1, c, take_encPs]
      repeat refine And.intro (by first | omega | (simp; done) | (simp; omega)) ?_
      exact ⟨fun x => if x = 7 then 2320 else x, by simp [SLe, SLe0, convTm, convHp, convB, conv, conv0, lkT, lkH]; exact fun id q1 q2 q3 => by omega⟩
    clear R μ κ a
    intro μ κ a w0 R
    refine wp_seq (wp_region_list ?_)
    refine wpList_front (T := tab) (G := g_e_la) (H := h_e_la) (D := []) (F := F) ⟨tabOK, mixed, gok_e_la.toF F, hok_e_la⟩ (X := fun _ _ => False) ⟨[(21, .ref 7 0 l.length true), (5, .ref 7 0 l.length true), (4, .sl 1 (encLI (witsV l))), (0, .sl 2 (encPs l))], [(7, some (.arr 2 38 (encPs l)))]⟩ 1 _ _ _ _ _ _ R ?_ ?_
    · simp only [W_nil, W_cons, effOp2, KN_back, effOp, effPure, pureV, strip, lkT, ISt.app, opI, gO, gB, allB, gval, wrapG, dstOK, setD, Op.operands, reduceIte, reduceCtorEq, Nat.reduceLT, Nat.reduceEqDiff, true_and, and_self, implies_true, List.nil_append, List.cons_append, List.take_succ_cons, List.take_zero, hN, List.take_succ_cons, List.take_zero]
      repeat refine And.intro (by first | omega | (simp; done) | (simp; omega)) ?_
      exact ⟨id, by simp [SLe, SLe0, convTm, convHp, convB, conv, conv0, lkT, lkH]⟩
    clear R μ κ a w0
    intro μ κ a w1 R
    -- the call of the program's function
    have hc1 : Chg (fun _ => False) w w1 := by have := R.chg; rw [hFB, hFw] at this; exact this
    have hlt7 : μ 7 < w1.heap.size := lt_of_own R (id := 7) rfl
    obtain ⟨hRB7, hA7, hB7⟩ := R.own 7 _ rfl
    have hge7 : w.heap.size ≤ μ 7 := by rw [hFB, hFw] at hB7; exact hB7.elim (fun h => h.elim) (fun h => h)
    have hx := lendP_rep R (R.tmps 21) (show lentP _ (IV.ref 7 0 l.length true) by show 0 + l.length ≤ (encPs l).length; omega) (fun b => b = μ 7) (fun id h => by simp [lkT, IV.ment] at h; rw [← h])
    have hx' : RepV (bare (fun b => avOf F μ [(7, some (.arr 2 38 (encPs l)))] b ∧ ¬ b = μ 7) w1) (.sl 2 (encPs l)) (a.tmps.getD 21 undef) := by
      have e : lendP (lkH [(7, some (IBlk.arr 2 38 (encPs l)))]) (IV.ref 7 0 l.length true) = .sl 2 (encPs l) := by
        show IV.sl 2 (((encPs l).drop 0).take l.length) = _
        rw [List.drop_zero, take_encPs]
      rw [← e]
      exact hx
    have hAv : ∀ b, (avOf F μ [(7, some (.arr 2 38 (encPs l)))] b ∧ ¬ b = μ 7) → b < w1.heap.size := by
      rintro b ⟨h | ⟨id, hid, rfl⟩, _⟩
      · exact Nat.lt_of_lt_of_le (F.hA b h) R.chg.size
      · cases hb : lkH [(7, some (IBlk.arr 2 38 (encPs l)))] id with
        | none => exact absurd hb hid
        | some blk => exact lt_of_own R hb
    refine wpList_call (f := 7) rfl rfl en_impl_HullWitness ?_
    show Calls _ _ ⟨[a.tmps.getD 21 undef]⟩ _ _
    refine (raw_HullWitness hAv hx').mono ?_
    rintro e w2 ⟨y, rfl, hc2, vs, β, hQ, hnb, hy⟩
    refine ⟨y, rfl, ?_⟩
    generalize hn : (witsV l).length = n at *
    have hww1 := hc1.size
    have hw12 := hc2.size
    obtain ⟨F2, hN2, hFA2, hFB2, hFw2, R2⟩ : ∃ F2 : Fr, F2.N = 69 ∧ (∀ x, F2.A x ↔ A x ∨ NB n (wN l) β x) ∧ (∀ x, F2.B0 x → w.heap.size ≤ x ∧ ¬ NB n (wN l) β x) ∧ F2.w0 = w2 ∧
        RepS F2 μ κ ⟨[(21, .ref 7 0 l.length true), (5, .ref 7 0 l.length true), (4, .sl 1 (encLI (witsV l))), (0, .sl 2 (encPs l))], [(7, some (.arr 2 38 (encPs l)))]⟩ a w2 := by
      refine ⟨{ A := fun x => A x ∨ NB n (wN l) β x, B0 := fun x => w.heap.size ≤ x ∧ x < w2.heap.size ∧ ¬ NB n (wN l) β x, w0 := w2, N := F.N, hAB := fun x h h2 => h.elim (fun h => by have := hAw x h; omega) (fun h => h2.2.2 h), hA := fun x h => h.elim (fun h => by have := hAw x h; omega) (fun h => hQ.lt h), hB := fun x h => h.2.1, μ0 := F.μ0, κ0 := F.κ0, hN := F.hN }, hN, fun x => Iff.rfl, fun x h => ⟨h.1, h.2.2⟩, rfl, ?_⟩
      refine R.reframe _ rfl rfl rfl rfl (fun _ => False) hc2 (fun _ h => h.elim) ?_ ?_
      · rintro x hx0 (h | h)
        · exact .inl (by rw [hFA]; exact h)
        · have := hnb x h; omega
      · intro id hid
        cases hb : lkH [(7, some (IBlk.arr 2 38 (encPs l)))] id with
        | none => exact absurd hb hid
        | some blk =>
          have e7 : id = 7 := by
            simp only [lkH] at hb
            split at hb
            · rename_i e; exact e.symm
            · cases hb
          subst e7
          have h5 : ¬ NB n (wN l) β (μ 7) := fun h => by have := hnb _ h; omega
          exact ⟨fun h => h.elim (fun h => hA7 (by rw [hFA]; exact h)) h5, hge7, Nat.lt_of_lt_of_le hlt7 hw12, h5⟩
    have hy2 : RepV (ctx F2 μ κ [(7, some (.arr 2 38 (encPs l)))] w2) (.sl 1 vs) y := by
      refine RepV.mono (c := bare (fun b => b < w1.heap.size ∨ NB n (wN l) β b) w2) (c' := ctx F2 μ κ [(7, some (.arr 2 38 (encPs l)))] w2) (ok := fun _ => False) ⟨fun _ h => h.elim, ?_, Nat.le_refl _, fun _ _ _ _ => rfl⟩ _ _ (fun id h => by simp [IV.ment] at h) hy
      rintro b hb (h | ⟨id, hid, rfl⟩)
      · rcases (hFA2 b).1 h with h | h
        · have := hAw b h; exact .inl (by omega)
        · exact .inr h
      · cases hb2 : lkH [(7, some (IBlk.arr 2 38 (encPs l)))] id with
        | none => exact absurd hb2 hid
        | some blk => exact .inl (lt_of_own R hb2)
    have R3 := R2.put (d := 22) (x := .sl 1 vs) (v := y) hy2 (by rw [hN2]; decide)
    have hc12 : Chg (fun _ => False) w w2 := hc1.trans hc2 (fun _ h => h) (fun _ _ h => h)
    have hQ0 : Nest F2.w0 vs n (wL l) (wN l) β := by rw [hFw2]; exact hQ
    clear R R2 hRB7 hx hx' hAv hN hFA hFB hFw hFN hy hy2 hc1 hc2 hB7 hA7 hge7 hlt7 hQ
    have hN := hN2
    clear hN2
    have hgok : GOKF Try.prog F2 ((8, spN vs (witsV l)) :: g_e_lc) := gokN hQ0 (fun b hb h => (hFB2 b h).2 hb) hn (fun j _ => rfl) (gok_e_lc.toF F2)
    refine wpList_front (T := tab) (G := (8, spN vs (witsV l)) :: g_e_lc) (H := h_e_lc) (D := []) (F := F2) ⟨tabOK, mixed, hgok, hok_e_lc⟩ (X := fun _ _ => False) ⟨[(6, .sl 1 vs), (5, .ref 7 0 l.length true), (4, .sl 1 (encLI (witsV l))), (0, .sl 2 (encPs l))], [(7, some (.arr 2 38 (encPs l)))]⟩ 1 _ _ _ _ _ _ R3 ?_ ?_
    · simp only [W_nil, W_cons, effOp2, KN_back, effOp, effPure, pureV, strip, lkT, ISt.app, opI, gO, gB, allB, gval, wrapG, dstOK, setD, Op.operands, reduceIte, reduceCtorEq, Nat.reduceLT, Nat.reduceEqDiff, true_and, and_self, implies_true, List.nil_append, List.cons_append, List.take_succ_cons, List.take_nil, hN, List.take_succ_cons]
      repeat refine And.intro (by first | omega | (simp; done) | (simp; omega)) ?_
      exact ⟨id, by simp [SLe, SLe0, convTm, convHp, convB, conv, conv0, lkT, lkH]⟩
    clear R3 μ κ a
    intro μ κ a w3 R
    change Code.wp _ (Code.seq _ _) _ _ _
    have em1 := len_encPs (marksP l.length 1)
    rw [marksP_len] at em1
    have d2 : decide (1 + 2 * (l.length : Int) < 0) = false := by simp only [decide_eq_false_iff_not]; omega
    refine wp_cutG (T := tab) (G := (8, spN vs (witsV l)) :: g_e_lc) (H := h_e_lc) (D := []) (F := F2) ⟨tabOK, mixed, hgok, hok_e_lc⟩ 6 ⟨[(8, .num .i64 1), (6, .sl 1 vs), (4, .sl 1 (encLI (witsV l))), (0, .sl 2 (encPs l))], []⟩ (by kernel_rfl) R ?_ ?_
    · simp only [V_seq, V_skip, V_region, V_cond, brW_false, W_nil, W_cons, effOp2, KN_seq, KN_back, asB, effOp, effPure, effPick, effCall, giveUp, hasAll, Option.isSome_some, skipE, pureV, pickV, binV, ofC, strip, lkT, lkH, ISt.app, opI, gO, gB, allB, gval, wrapG, dstOK, setD, mentTm, mentHp, IV.ment, lkG, lendV, lendP, lent, lentP, idsV, idsL, flat, clean, callArgs, callFn, allLent, enumT, conv, conv0, IBlk.shape, Op.operands, reduceIte, reduceCtorEq, cond_true, cond_false, Bool.or_false, Bool.or_true, Bool.and_true, Bool.not_true, Bool.not_false, Nat.reduceAdd, Nat.reduceSub, Nat.reduceMul, Nat.reduceLT, Nat.reduceLeDiff, Nat.reduceEqDiff, Nat.reduceBEq, Nat.add_zero, Nat.zero_add, not_false_eq_true, beq_self_eq_true, true_and, and_true, and_false, and_self, implies_true, forall_const, List.map_cons, List.map_nil, List.nil_append, List.cons_append, List.append_nil, List.all_nil, Option.map_some, Option.map_none, Option.bind_some, List.getElem?_cons_zero, List.getElem?_cons_succ, List.getD_cons_zero, List.drop_zero, ex_clo, or_self, Bool.true_eq_false, Bool.false_eq_true, hN, isPs_enc, toPs_enc, SLe0, convTm, convHp, convB, sm, effH, mkHC0, mkHC1, lendM, lentM, lentI, allHere, addIds, idsB, flatIds, reach, posn, renV, renL, renB, renH, numB, subHp, fwd, bk, bwd, nones, keyOK, noSl, flatBs, List.contains, List.elem, Option.isSome_some, List.nodup_nil, List.nodup_cons, List.not_mem_nil, Option.getD_some, lk_e_lc_laws_eqPointS, sp_laws_eqPointS, lh_e_lc_laws_eqPointS, lh_e_lc_laws_toPointS, lh_e_lc_laws_markPointS, hs_laws_toPointS, hs_laws_markPointS, frontS, front0, spN, lh_lc8, el, c, c2, em1, d2, take_encPs, noSl_encPs]
      have tk1 : (encPs (marksP l.length 1)).take l.length = encPs (marksP l.length 1) := List.take_of_length_le (by omega)
      refine ⟨Nat.le_refl _, ⟨by omega, tk1.symm⟩, id, by simp [SLe, SLe0, convTm, convHp, conv, conv0, lkT, lkH, clean]⟩
    clear R μ κ a w3
    intro μ κ a w3 R
    -- the marks
    refine wp_seq (wp_region_list ?_)
    refine wpList_front (T := tab) (G := (8, spN vs (witsV l)) :: g_e_lc) (H := h_e_lc) (D := []) (F := F2) ⟨tabOK, mixed, hgok, hok_e_lc⟩ (X := fun _ _ => False) ⟨[(43, .sl 1 vs), (44, .num .i64 1), (6, .sl 1 vs), (4, .sl 1 (encLI (witsV l))), (0, .sl 2 (encPs l))], []⟩ 2 _ _ _ _ _ _ R ?_ ?_
    · simp only [W_nil, W_cons, effOp2, KN_back, effOp, effPure, pureV, strip, lkT, ISt.app, opI, gO, gB, allB, gval, wrapG, dstOK, setD, Op.operands, reduceIte, reduceCtorEq, Nat.reduceLT, Nat.reduceEqDiff, true_and, and_self, implies_true, List.nil_append, List.cons_append, List.append_nil, List.take_succ_cons, List.take_zero, hN, List.take_succ_cons, List.take_zero]
      repeat refine And.intro (by first | omega | (simp; done) | (simp; omega)) ?_
      exact ⟨id, by simp [SLe, SLe0, convTm, convHp, conv, conv0, lkT, lkH, clean]⟩
    clear R μ κ a w3
    intro μ κ a w3 R
    have hc3 := R.chg
    have hQ3 : Nest w3 vs n (wL l) (wN l) β := hQ0.chg hc3 (fun b hb h => (hFB2 b h).2 hb)
    have hc03 : Chg (fun _ => False) w w3 := hc12.trans (by rw [hFw2] at hc3; exact hc3) (fun _ h => h) (fun b hb h => by have := (hFB2 b h).1; omega)
    have hn20 := witsV_len l
    have htot := tot_le (wN_le l) n
    have e43 : RepV (bare F2.A w3) (.sl 1 vs) (a.tmps.getD 43 undef) :=
      RepV.mono (c := ctx F2 μ κ [] w3) (c' := bare F2.A w3) (ok := fun _ => True) ⟨fun _ _ => .inl rfl, fun b _ h => .inl h, Nat.le_refl _, fun _ _ _ _ => rfl⟩ _ _ (fun _ _ => trivial) (R.tmps 43)
    have e6 : RepV (ctx F2 μ κ [] w3) (.sl 1 vs) (a.tmps.getD 6 undef) := R.tmps 6
    have e44 : a.tmps.getD 44 undef = .int .i64 1 := by have := R.tmps 44; simpa [lkT, RepV] using this
    refine wpList_call (f := 11) rfl rfl en_laws_markIntSS ?_
    show Calls _ _ ⟨[a.tmps.getD 43 undef, a.tmps.getD 44 undef]⟩ _ _
    rw [e44]
    refine (raw_markIntSS (A := F2.A) (fun b hb => (hFA2 b).2 (.inr hb)) (fun b hb => Nat.lt_of_lt_of_le (F2.hA b hb) hc3.size) e43 hQ3 (by omega) (by omega) (by omega)).mono ?_
    rintro e w4 ⟨y, rfl, hy, hc4, hQ4⟩
    refine ⟨y, rfl, ?_⟩
    have hw3 := hc03.size
    have hw34 := hc4.size
    have hc04 : Chg (fun _ => False) w w4 := hc03.trans hc4 (fun _ h => h) (fun b hb h => by have := hnb b h; omega)
    have hle6 : (ctx F2 μ κ [] w3).Le (ctx F2 μ κ [] w4) (fun _ => True) :=
      ⟨fun _ _ => .inr ⟨rfl, rfl, rfl⟩, fun _ _ h => h, hc4.size, fun b o hb hn => World.cell?_of_block (hc4.block b hb (fun h => hn (.inl ((hFA2 b).2 (.inr h)))))⟩
    have e6' := RepV.mono hle6 _ _ (fun _ _ => trivial) e6
    obtain ⟨F3, hN3, hFA3, hFB3, hFw3, R3⟩ : ∃ F3 : Fr, F3.N = 69 ∧ F3.A = A ∧ (∀ x, F3.B0 x → w.heap.size ≤ x) ∧ F3.w0 = w4 ∧
        RepS F3 μ κ ⟨[(43, .sl 1 vs), (44, .num .i64 1), (6, .sl 1 vs), (4, .sl 1 (encLI (witsV l))), (0, .sl 2 (encPs l))], []⟩ a w4 := by
      refine ⟨{ A := A, B0 := fun x => w.heap.size ≤ x ∧ x < w4.heap.size, w0 := w4, N := F2.N, hAB := fun x h h2 => by have := hAw x h; omega, hA := fun x h => by have := hAw x h; omega, hB := fun x h => h.2, μ0 := F2.μ0, κ0 := F2.κ0, hN := F2.hN }, hN, rfl, fun x h => h.1, rfl, ?_⟩
      exact R.reframe _ rfl rfl rfl rfl (NB n (wN l) β) hc4 (fun b hb => (hFA2 b).2 (.inr hb)) (fun b _ h => .inl ((hFA2 b).2 (.inl h))) (fun id h => absurd rfl h)
    have hQ4' : Nest (ctx F3 μ κ [] w4).w vs n (fun j => marksI (wN l j) (1 + (tot (wN l) j : Int))) (wN l) β := hQ4
    have e6m : RepV (ctx F3 μ κ [] w4) (.sl 1 (encLI (mksL l))) (a.tmps.getD 6 undef) := by
      refine hQ4'.val (by rw [mksL_len, hn]) (fun j hj => (mksL_at (by omega)).symm) (R3.tmps 6) ?_
      rintro b hb (h | ⟨id, h, _⟩)
      · rw [hFA3] at h; have := hnb b hb; have := hAw b h; omega
      · exact absurd rfl h
    have R4 := (repS_tag R3 e6m).put (d := 45) (x := .num .i64 (1 + (tot (wN l) n : Int))) (v := y) (by simp only [RepV]; exact hy) (by rw [hN3]; decide)
    clear R R3 hN hgok hQ0 hQ3 hQ4 hQ4' e43 e6 e6' e6m hle6 hc12 hc3 hc03 hFA2 hFB2 hFw2
    have hN := hN3
    clear hN3
    refine wpList_front (T := tab) (G := g_e_le) (H := h_e_le) (D := []) (F := F3) ⟨tabOK, mixed, gok_e_le.toF F3, hok_e_le⟩ (X := fun _ _ => False) ⟨[(8, .num .i64 (1 + (tot (wN l) n : Int))), (6, .sl 1 (encLI (mksL l))), (4, .sl 1 (encLI (witsV l))), (0, .sl 2 (encPs l))], []⟩ 1 _ _ _ _ _ _ R4 ?_ ?_
    · simp only [W_nil, W_cons, effOp2, KN_back, effOp, effPure, pureV, strip, lkT, ISt.app, opI, gO, gB, allB, gval, wrapG, dstOK, setD, Op.operands, reduceIte, reduceCtorEq, Nat.reduceLT, Nat.reduceEqDiff, true_and, and_self, implies_true, List.nil_append, List.cons_append, List.append_nil, List.take_succ_cons, List.take_nil, hN, List.take_succ_cons]
      repeat refine And.intro (by first | omega | (simp; done) | (simp; omega)) ?_
      exact ⟨id, by simp [SLe, SLe0, convTm, convHp, conv, conv0, lkT, lkH, clean]⟩
    clear R4 e44 μ κ a
    intro μ κ a w5 R
    change Code.wp _ (Code.seq _ _) _ _ _
    have hmk := mksL_marked l
    have hml : (mksL l).length = n := by rw [mksL_len, hn]
    have hmt : tot (lenOf (mksL l)) n = tot (wN l) n := mksL_tot (by omega)
    have m1 : 1 + (tot (wN l) n : Int) ≤ 2000000 := by omega
    have m2 : n ≤ 2000000 := by omega
    have d3 : decide (1 + (tot (wN l) n : Int) < 0) = false := by simp only [decide_eq_false_iff_not]; omega
    have d4 : ∀ x : Int, (x != x) = false := fun x => by simp
    have hL2 : ∀ x : List (List Int), (x == x) = true := fun x => by simp
    refine wp_segE (T := tab) (G := g_e_le) (H := h_e_le) (D := []) (F := F3) ⟨tabOK, mixed, gok_e_le.toF F3, hok_e_le⟩ .ret ⟨[(2, .bool true)], []⟩ (by kernel_rfl) R ?_ ?_
    · simp only [V_seq, V_skip, V_ret, V_region, V_cond, brW_false, W_nil, W_cons, effOp2, KN_seq, KXr_nil, QE, asB, effOp, effPure, effCall, giveUp, hasAll, Option.isSome_some, skipE, pureV, binV, ofC, strip, lkT, lkH, ISt.app, opI, gO, gB, allB, gval, wrapG, dstOK, setD, mentTm, mentHp, IV.ment, lendV, lendP, lent, lentP, idsV, idsL, flat, clean, callArgs, callFn, allLent, enumT, conv, conv0, IBlk.shape, Op.operands, reduceIte, reduceCtorEq, cond_true, cond_false, Bool.or_false, Bool.and_true, Bool.not_true, Bool.not_false, Nat.reduceAdd, Nat.reduceSub, Nat.reduceMul, Nat.reduceLT, Nat.reduceLeDiff, Nat.reduceEqDiff, Nat.add_zero, Nat.zero_add, not_false_eq_true, beq_self_eq_true, true_and, and_true, and_false, and_self, implies_true, forall_const, List.map_cons, List.map_nil, List.nil_append, List.cons_append, List.append_nil, List.all_nil, Option.map_none, List.drop_zero, ex_clo, true_or, or_true, or_self, Bool.false_eq_true, hN, isPs_enc, toPs_enc, SLe0, convTm, convHp, convB, sm, effH, mkHC0, mkHC1, lendM, lentM, lentI, allHere, addIds, flatIds, reach, posn, renV, renL, renB, renH, numB, subHp, fwd, bk, bwd, nones, keyOK, noSl, flatBs, List.contains, List.elem, Option.isSome_some, List.nodup_nil, List.nodup_cons, List.not_mem_nil, Option.getD_some, lk_e_le_laws_heldIntSS, lk_e_le_laws_eqIntSS, lk_e_le_impl_HullWitness, sp_laws_heldIntSS, sp_laws_eqIntSS, sp_impl_HullWitness, lh_e_le_laws_heldIntSS, lh_e_le_laws_eqIntSS, lh_e_le_impl_HullWitness, lh_e_le_laws_toPointS, hs_laws_toPointS, el, c, take_encPs, isLI_enc, toLI_enc, hmk, hml, hmt, m1, m2, d3, d4]
      exact ⟨by omega, Nat.le_refl _, by omega, id, by simp [SLe, SLe0, convTm, convHp, conv, conv0, lkT, lkH, clean]⟩
    clear R μ κ a
    intro μ κ a w6 R
    have hc6 := R.chg
    rw [hFw3] at hc6
    have e2 : a.tmps.getD 2 undef = .bool true := by have := R.tmps 2; simpa [lkT, RepV] using this
    exact ⟨.inr rfl, R.defers, hc04.trans hc6 (fun _ h => h) (fun b hb h => by have := hFB3 b h; omega), by rw [e2]; simp [RepV]⟩
  · refine icall_V (G := g_e_la) (H := h_e_la) [] tabOK mixed gok_e_la hok_e_la Try.func3 rfl Try.ntmps3 Try.results3 rfl (by kernel_rfl) fun F hN hlen => ?_
    have el := len_encPs l
    have hv : szPointV l 1048576 = -1 := if_pos (by omega)
    have d1 : decide ((-1 : Int) < 0) = true := by decide
    simp only [V_seq, V_ret, V_region, V_cond, brW_true, W_nil, W_cons, effOp2, KN_seq, KXr_nil, KXr_seq, QE, asB, effOp, effPure, effCall, giveUp, hasAll, pureV, binV, ofC, strip, lkT, lkH, ISt.app, opI, gO, gB, allB, gval, wrapG, dstOK, setD, lendV, lendP, lent, lentP, idsV, idsL, flat, clean, callArgs, callFn, allLent, enumT, Gives, Ideal.Fin, conv, conv0, Op.operands, reduceIte, reduceCtorEq, cond_true, Bool.or_false, Bool.not_true, Nat.reduceLT, Nat.reduceEqDiff, true_and, and_true, and_self, implies_true, forall_const, List.map_cons, List.map_nil, List.nil_append, List.cons_append, List.append_nil, ex_clo, or_self, hN, isPs_enc, toPs_enc, lk_e_la_laws_szPointS, sp_laws_szPointS, lh_e_la_laws_szPointS, hv, d1]
    exact ⟨by omega, by omega⟩
def sp_laws_FnExactHullWitness : PSpec := ⟨fun xs => match xs with | [.sl 2 les] => isPs les | _ => False, fun xs => match xs with | [.sl _ les] => (fun (l : List Pt) => .bool true) (toPs les) | _ => .junk, false⟩
theorem gk_laws_FnExactHullWitness : ∀ args, sp_laws_FnExactHullWitness.pre args → ICall Try.prog 3 args (sp_laws_FnExactHullWitness.val args) := by
  intro args h
  unfold sp_laws_FnExactHullWitness at h ⊢; simp only at h ⊢; split at h
  · have h0 := h
    obtain ⟨l0, rfl⟩ := isP_ex h0
    try simp only [toPs_enc] at *
    exact c_laws_FnExactHullWitness _ 
  · exact h.elim
theorem en_laws_FnExactHullWitness : Enters Try.prog 3 := enters_of Try.func3 (by kernel_rfl) rfl

end Go.Proofs.Ytiadicmnbjaknaa
