/- laws.markIntSS on lists of lists in own memory; laws.heldIntSS. -/
import Derived.Test.YtiadicmnbjaknaaB99
set_option linter.unusedVariables false
set_option linter.unusedSimpArgs false
set_option maxHeartbeats 4000000
set_option maxRecDepth 100000
namespace Go.Proofs.Ytiadicmnbjaknaa
open Go Go.Ideal Go.Pl Go.Sort

/-- How many stand before. -/
def tot (len : Nat → Nat) : Nat → Nat
  | 0 => 0
  | j + 1 => tot len j + len j
theorem tot_mono {len : Nat → Nat} {i j : Nat} (h : i ≤ j) : tot len i ≤ tot len j := by
  induction j with
  | zero => have : i = 0 := by omega
            rw [this]; exact Nat.le_refl _
  | succ j ih =>
    by_cases e : i = j + 1
    · rw [e]; exact Nat.le_refl _
    · have := ih (by omega)
      simp only [tot]; omega

def g_e_none : List (Nat × PSpec) := []
theorem gok_e_none : GOK Try.prog g_e_none := gok0
def h_e_none : List (Nat × HSpec) := []
theorem hok_e_none : HOK Try.prog h_e_none := hok0

theorem raw_markIntSS {A : Nat → Prop} {w : World} {x : Value} {vs : List IV} {n : Nat} {ell : Nat → List Int} {len β : Nat → Nat} {k : Int} (hNA : ∀ b, NB n len β b → A b) (hAw : ∀ b, A b → b < w.heap.size)
    (hx : RepV (bare A w) (.sl 1 vs) x) (hQ : Nest w vs n ell len β) (h0 : 0 ≤ k) (h1 : k + (tot len n : Int) ≤ 2000000) (hn1 : n ≤ 2000000) :
    Calls Try.prog 11 ⟨[x, .int .i64 k]⟩ w fun e w' => ∃ y, e = .returned y ∧ y = .int .i64 (k + (tot len n : Int)) ∧ Chg (NB n len β) w w' ∧ Nest w' vs n (fun j => marksI (len j) (k + (tot len j : Int))) len β := by
  have hargs : RepL (bare A w) [.sl 1 vs, .num .i64 k] [x, .int .i64 k] := by
    simp only [RepL]
    exact ⟨_, _, rfl, hx, _, _, rfl, by simp [RepV], rfl⟩
  have hvl := hQ.vl
  refine raw_at (args := [.sl 1 vs, .num .i64 k]) (t := 4) Try.func11 rfl Try.results11 (by rw [Try.ntmps11]; exact Nat.le_of_ble_eq_true rfl) (by rw [Try.ntmps11]; decide) hAw hargs ?_
  intro F μ κ a hFN hFw hFA hFB R
  have hn0 := hQ
  rw [Try.ntmps11] at hFN
  have hN := hFN
  refine wp_cutG (T := tab) (G := g_e_none) (H := []) (D := []) (F := F) ⟨tabOK, mixed, gok_e_none.toF F, hok_e_none⟩ 1 ⟨[(0, .sl 1 vs), (1, .num .i64 k)], []⟩ (by kernel_rfl) R ?_ ?_
  · simp only [V_seq, V_skip, V_region, W_nil, W_cons, effOp2, KN_seq, KN_back, effOp, effPure, pureV, ofC, strip, ISt.app, opI, gO, gB, allB, gval, wrapG, dstOK, setD, enumT, Op.operands, Nat.reduceLT, Nat.zero_add, true_and, and_self, implies_true, List.nil_append, List.cons_append, List.append_nil, hN, frontS, front0, enumT]
    exact ⟨id, by simp [SLe, SLe0, convTm, convHp, conv, conv0, lkT, lkH, clean]⟩
  clear R μ κ a
  intro μ κ a wa R
  have hca : Chg (fun _ => False) w wa := by have := R.chg; rw [hFB, hFw] at this; exact this
  refine wp_seq ?_
  refine wp_cutG (T := tab) (G := g_e_none) (H := []) (D := []) (F := F) ⟨tabOK, mixed, gok_e_none.toF F, hok_e_none⟩ 1 ⟨[(5, .num .i64 0), (0, .sl 1 vs), (1, .num .i64 k)], []⟩ (by kernel_rfl) R ?_ ?_
  · simp only [V_seq, V_skip, V_region, W_nil, W_cons, effOp2, KN_seq, KN_back, effOp, effPure, pureV, ofC, strip, ISt.app, opI, gO, gB, allB, gval, wrapG, dstOK, setD, Op.operands, Nat.reduceLT, true_and, and_self, implies_true, List.nil_append, List.cons_append, List.append_nil, hN, frontS, front0]
    exact ⟨id, by simp [SLe, SLe0, convTm, convHp, conv, conv0, lkT, lkH, clean]⟩
  clear R μ κ a hca wa
  intro μ κ a wa R
  have hca : Chg (fun _ => False) w wa := by have := R.chg; rw [hFB, hFw] at this; exact this
  refine wp_block ?_
  refine wp_rounds (fun m a w' => ∃ (i : Nat) (F : Fr) (μ κ : Nat → Nat), m = n - i ∧ i ≤ n ∧ F.N = 19 ∧ F.A = A ∧ F.B0 = (fun _ => False) ∧ RepS F μ κ ⟨[(5, .num .i64 i), (0, .sl 1 vs), (1, .num .i64 (k + (tot len i : Int)))], []⟩ a w' ∧
      Nest F.w0 vs n (fun j => if j < i then marksI (len j) (k + (tot len j : Int)) else ell j) len β ∧ Chg (NB n len β) w F.w0) n ?_ ?_
  · refine ⟨0, F, μ, κ, rfl, Nat.zero_le _, hN, hFA, hFB, ?_, ?_, by rw [hFw]; exact Chg.refl _ _⟩
    · simpa [tot] using R
    · rw [hFw]
      simpa using hn0
  · clear R hca wa a κ μ hFB hFA hFw hN hFN F
    rintro m a wa ⟨i, F, μ, κ, rfl, hi, hN, hFA, hFB, R, hn0, hca⟩
    have hlen : vs.length ≤ maxLen := by rw [hvl, maxLen_eq]; omega
    by_cases hin : i < n
    · -- one more
      have hd : decide ((i : Int) < (vs.length : Int)) = true := by rw [hvl]; simpa using hin
      have hw := wr_succ hin (by rw [maxLen_eq]; omega)
      have hm := tot_mono (len := len) (show i + 1 ≤ n from hin)
      have ht : tot len (i + 1) = tot len i + len i := rfl
      refine wp_cutG (T := tab) (G := g_e_none) (H := []) (D := []) (F := F) ⟨tabOK, mixed, gok_e_none.toF F, hok_e_none⟩ 1 ⟨[(5, .num .i64 i), (0, .sl 1 vs), (1, .num .i64 (k + (tot len i : Int)))], []⟩ (by kernel_rfl) R ?_ ?_
      · simp only [V_seq, V_skip, V_region, V_cond, brW_true, W_nil, W_cons, effOp2, KN_seq, KN_back, asB, effOp, effPure, pureV, binV, lenV, strip, lkT, ISt.app, opI, gO, gB, allB, gval, wrapG, dstOK, setD, Op.operands, Call.operands, List.append_toArray, reduceIte, reduceCtorEq, Nat.reduceLT, Nat.reduceEqDiff, ne_eq, not_false_eq_true, true_and, and_self, implies_true, List.nil_append, List.cons_append, List.append_nil, tab24, hN, frontS, front0, hd]
        repeat refine And.intro (by first | omega | (simp; done) | (simp; omega)) ?_
        exact ⟨id, by simp [SLe, SLe0, convTm, convHp, conv, conv0, lkT, lkH, clean]⟩
      clear R μ κ a
      intro μ κ a wb R
      refine wp_seq (wp_block (wp_region_list ?_))
      obtain ⟨a0, c0, hv⟩ := (hn0.elt i hin).form
      have hl0 := hn0.ln i hin
      rw [hl0] at hv
      refine wpList_front (T := tab) (G := g_e_none) (H := []) (D := []) (F := F) ⟨tabOK, mixed, gok_e_none.toF F, hok_e_none⟩ (X := fun _ _ => False) ⟨[(15, .lsl a0 (len i) c0), (16, .num .i64 (k + (tot len i : Int))), (5, .num .i64 i), (0, .sl 1 vs)], []⟩ 5 _ _ _ _ _ _ R ?_ ?_
      · have hvn : ((i : Int) < (vs.length : Int)) = True := by rw [hvl]; simpa using hin
        simp only [W_nil, W_cons, effOp2, KN_back, effOp, effPure, pureV, eltV, loadV, iaddrV, strip, lkT, ISt.app, opI, gO, gB, allB, gval, wrapG, dstOK, setD, Op.operands, reduceIte, reduceCtorEq, Nat.reduceLT, Nat.reduceEqDiff, ne_eq, not_false_eq_true, true_and, and_true, and_self, implies_true, forall_const, List.nil_append, List.cons_append, List.append_nil, List.take_succ_cons, List.take_zero, tab24, tab35, hN, Int.toNat_natCast, List.take_succ_cons, List.take_zero, hv, hvn]
        repeat refine And.intro (by first | omega | (simp; done) | (simp; omega)) ?_
        exact ⟨id, by simp [SLe, SLe0, convTm, convHp, conv, conv0, lkT, lkH, clean]⟩
      clear R μ κ a
      intro μ κ a wc R
      have hcc : Chg (fun _ => False) F.w0 wc := by have := R.chg; rw [hFB] at this; exact this
      have hn2 := hn0.chg hcc (fun _ _ h => h)
      have e15 : RepV (ctx F μ κ [] wc) (vs.getD i .junk) (a.tmps.getD 15 undef) := by rw [hv]; exact R.tmps 15
      have e16 : a.tmps.getD 16 undef = .int .i64 (k + (tot len i : Int)) := by have := R.tmps 16; simpa [lkT, RepV] using this
      refine wpList_call (f := 22) rfl rfl en_laws_markIntS ?_
      show Calls _ _ ⟨[a.tmps.getD 15 undef, a.tmps.getD 16 undef]⟩ _ _
      rw [e16]
      have hmt := tot_mono (len := len) (show i ≤ n from hi)
      refine (mark_step hn2 hin (by omega) (by omega) (by omega) e15).mono ?_
      rintro e w' ⟨y, rfl, hy, hcy, hny⟩
      refine ⟨y, rfl, ?_⟩
      have hwle : F.w0.heap.size ≤ w'.heap.size := Nat.le_trans hcc.size hcy.size
      obtain ⟨F', hN', hFA', hFB', hFw', R'⟩ : ∃ F' : Fr, F'.N = 19 ∧ F'.A = A ∧ F'.B0 = (fun _ => False) ∧ F'.w0 = w' ∧ RepS F' μ κ ⟨[(15, .lsl a0 (len i) c0), (16, .num .i64 (k + (tot len i : Int))), (5, .num .i64 i), (0, .sl 1 vs)], []⟩ a w' := by
        refine ⟨{ A := F.A, B0 := F.B0, w0 := w', N := F.N, hAB := F.hAB, hA := fun b h => Nat.lt_of_lt_of_le (F.hA b h) hwle, hB := fun b h => Nat.lt_of_lt_of_le (F.hB b h) hwle, μ0 := F.μ0, κ0 := F.κ0, hN := F.hN }, hN, hFA, hFB, rfl, ?_⟩
        exact R.reframe _ rfl rfl rfl rfl (NB n len β) hcy (fun b hb => by rw [hFA]; exact hNA b hb) (fun b _ h => .inl h) (fun id h => absurd rfl h)
      have R2 := R'.put (d := 17) (x := .num .i64 (k + (tot len (i + 1) : Int))) (v := y) (by simp only [RepV]; rw [hy, ht]; congr 1; omega) (by rw [hN']; decide)
      have hca' : Chg (NB n len β) w w' := (hca.trans hcc (fun _ h => h) (fun _ _ h => h.elim)).trans hcy (fun _ h => h) (fun _ _ h => h)
      clear R R' hN hFA hFB hn0 hn2 hcc e15 hca
      have hN := hN'
      clear hN'
      refine wpList_front (T := tab) (G := g_e_none) (H := []) (D := []) (F := F') ⟨tabOK, mixed, gok_e_none.toF F', hok_e_none⟩ (X := fun _ _ => False) ⟨[(1, .num .i64 (k + (tot len (i + 1) : Int))), (5, .num .i64 i), (0, .sl 1 vs)], []⟩ 1 _ _ _ _ _ _ R2 ?_ ?_
      · simp only [W_nil, W_cons, effOp2, KN_back, effOp, effPure, pureV, strip, lkT, ISt.app, opI, gO, gB, allB, gval, wrapG, dstOK, setD, Op.operands, reduceIte, reduceCtorEq, Nat.reduceLT, Nat.reduceEqDiff, true_and, and_self, implies_true, List.nil_append, List.cons_append, List.append_nil, List.take_succ_cons, List.take_nil, hN, List.take_succ_cons]
        repeat refine And.intro (by first | omega | (simp; done) | (simp; omega)) ?_
        exact ⟨id, by simp [SLe, SLe0, convTm, convHp, conv, conv0, lkT, lkH, clean]⟩
      intro μ κ a wd R
      change Code.wp _ (Code.region _ _ _) _ _ _
      refine wp_segE (T := tab) (G := g_e_none) (H := []) (D := []) (F := F') ⟨tabOK, mixed, gok_e_none.toF F', hok_e_none⟩ .normal ⟨[(5, .num .i64 ((i + 1 : Nat) : Int)), (0, .sl 1 vs), (1, .num .i64 (k + (tot len (i + 1) : Int)))], []⟩ (by kernel_rfl) R ?_ ?_
      · simp only [V_region, W_nil, W_cons, effOp2, KN_nil, QE, effOp, effPure, pureV, binV, ofC, strip, lkT, ISt.app, opI, gO, gB, allB, gval, wrapG, dstOK, setD, Op.operands, reduceIte, reduceCtorEq, Nat.reduceLT, Nat.reduceEqDiff, true_and, and_self, implies_true, List.nil_append, List.cons_append, List.append_nil, hN, hw]
        repeat refine And.intro (by first | omega | (simp; done) | (simp; omega)) ?_
        exact ⟨id, by simp [SLe, SLe0, convTm, convHp, conv, conv0, lkT, lkH, clean]⟩
      intro μ κ a we R
      refine ⟨n - (i + 1), by omega, i + 1, F', μ, κ, rfl, hin, hN, hFA', hFB', R, ?_, by rw [hFw']; exact hca'⟩
      rw [hFw']
      have e : (fun j => if j = i then marksI (len i) (k + (tot len i : Int)) else if j < i then marksI (len j) (k + (tot len j : Int)) else ell j) = (fun j => if j < i + 1 then marksI (len j) (k + (tot len j : Int)) else ell j) := by
        funext j
        by_cases c1 : j = i
        · subst c1; rw [if_pos rfl, if_pos (by omega)]
        · rw [if_neg c1]
          by_cases c2 : j < i
          · rw [if_pos c2, if_pos (by omega)]
          · rw [if_neg c2, if_neg (by omega)]
      rw [← e]
      exact hny
    · have hie : i = n := by omega
      have hd : decide ((i : Int) < (vs.length : Int)) = false := by rw [hvl, hie]; simp
      refine wp_segE (T := tab) (G := g_e_none) (H := []) (D := []) (F := F) ⟨tabOK, mixed, gok_e_none.toF F, hok_e_none⟩ (.exit 0) ⟨[(1, .num .i64 (k + (tot len i : Int)))], []⟩ (by kernel_rfl) R ?_ ?_
      · simp only [V_seq, V_exit, V_region, V_cond, brW_false, W_nil, W_cons, effOp2, KN_seq, KXe_nil, KXe_seq, QE, asB, effOp, effPure, pureV, binV, lenV, strip, lkT, ISt.app, opI, gO, gB, allB, gval, wrapG, dstOK, setD, Op.operands, Call.operands, List.append_toArray, reduceIte, reduceCtorEq, Nat.reduceLT, Nat.reduceEqDiff, ne_eq, not_false_eq_true, true_and, and_self, implies_true, List.nil_append, List.cons_append, List.append_nil, tab24, hN, hd]
        repeat refine And.intro (by first | omega | (simp; done) | (simp; omega)) ?_
        exact ⟨id, by simp [SLe, SLe0, convTm, convHp, conv, conv0, lkT, lkH, clean]⟩
      intro μ κ a wb R
      have hcb : Chg (fun _ => False) F.w0 wb := by have := R.chg; rw [hFB] at this; exact this
      change Code.wp _ (Code.seq _ _) _ _ _
      refine wp_segE (T := tab) (G := g_e_none) (H := []) (D := []) (F := F) ⟨tabOK, mixed, gok_e_none.toF F, hok_e_none⟩ .ret ⟨[(4, .num .i64 (k + (tot len i : Int)))], []⟩ (by kernel_rfl) R ?_ ?_
      · simp only [V_seq, V_ret, V_region, W_nil, W_cons, effOp2, KN_seq, KXr_nil, QE, effOp, effPure, pureV, strip, lkT, ISt.app, opI, gO, gB, allB, gval, wrapG, dstOK, setD, Op.operands, reduceIte, Nat.reduceLT, Nat.reduceEqDiff, true_and, and_self, implies_true, List.nil_append, List.cons_append, List.append_nil, hN]
        repeat refine And.intro (by first | omega | (simp; done) | (simp; omega)) ?_
        exact ⟨id, by simp [SLe, SLe0, convTm, convHp, conv, conv0, lkT, lkH, clean]⟩
      intro μ κ a we R
      have hce : Chg (fun _ => False) F.w0 we := by have := R.chg; rw [hFB] at this; exact this
      have e4 : a.tmps.getD 4 undef = .int .i64 (k + (tot len i : Int)) := by have := R.tmps 4; simpa [lkT, RepV] using this
      refine ⟨.inr rfl, R.defers, by rw [e4, hie], hca.trans hce (fun _ h => h) (fun _ _ h => h.elim), ?_⟩
      have := hn0.chg hce (fun _ _ h => h)
      refine ⟨this.vl, fun j hj => by rw [marksI_len], fun j hj => ?_, this.inj⟩
      have := this.elt j hj
      rwa [if_pos (by omega)] at this
theorem en_laws_markIntSS : Enters Try.prog 11 := enters_of Try.func11 (by kernel_rfl) rfl
end Go.Proofs.Ytiadicmnbjaknaa
