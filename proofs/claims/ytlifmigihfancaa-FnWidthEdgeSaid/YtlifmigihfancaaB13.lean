/- The law on extreme points: the walk. -/
import Derived.Test.YtlifmigihfancaaB11
import Derived.Test.YtlifmigihfancaaB7
import Derived.Test.YtlifmigihfancaaBO
set_option linter.unusedVariables false
set_option linter.unusedSimpArgs false
namespace Go.Proofs.Ytlifmigihfancaa
open Go Go.Ideal Go.Pl Go.Sort

def dotP (p q : Pt) : Int := p.1 * q.1 + p.2 * q.2
theorem dotP_lin (p q : Pt) : dotP p q = lin q.1 q.2 p := by unfold dotP lin; grind
theorem sm_mul {x y : Int} (hx : sm1 x) (hy : sm1 y) : -10000000000 ≤ x * y ∧ x * y ≤ 10000000000 := by
  have := mulb (A := 100000) (B := 100000) (by unfold sm1 at hx; omega) (by unfold sm1 at hy; omega)
  omega
/-- Numbers whose products have room. -/
def Sm9 (p : Pt) : Prop := (-1000000000 ≤ p.1 ∧ p.1 ≤ 1000000000) ∧ (-1000000000 ≤ p.2 ∧ p.2 ≤ 1000000000)
theorem Sm.nine {p : Pt} (h : Sm p) : Sm9 p := by unfold Sm sm1 at h; unfold Sm9; omega
theorem Sm.way {p q : Pt} (h : Sm p) (k : Sm q) : Sm9 (wayP p q) := by unfold Sm sm1 at h k; unfold Sm9 wayP; simp only []; omega
def g_impl_Point_dot : List (Nat × PSpec) := []
theorem gok_impl_Point_dot : GOK Try.prog g_impl_Point_dot := gok0
def h_impl_Point_dot : List (Nat × HSpec) := []
theorem hok_impl_Point_dot : HOK Try.prog h_impl_Point_dot := hok0
theorem c_impl_Point_dot (p : Pt) (q : Pt) (hp : Sm9 p) (hq : Sm9 q) : ICall Try.prog 109 [encP p, encP q] (.num .i64 (dotP p q)) := by
  refine icall_V (G := g_impl_Point_dot) (H := []) [] tabOK mixed gok_impl_Point_dot hok_impl_Point_dot Try.func109 rfl Try.ntmps109 Try.results109 rfl (by kernel_rfl) fun F hN hlen => ?_
  have h1 := mulb hp.1 hq.1
  have h2 := mulb hp.2 hq.2
  have w1 : IntKind.i64.wrap (p.1 * q.1) = p.1 * q.1 := wr (by omega) (by omega)
  have w2 : IntKind.i64.wrap (p.2 * q.2) = p.2 * q.2 := wr (by omega) (by omega)
  have w3 : IntKind.i64.wrap (p.1 * q.1 + p.2 * q.2) = p.1 * q.1 + p.2 * q.2 := wr (by omega) (by omega)
  simp only [V_seq, V_ret, V_region, W_nil, W_cons, effOp2, KN_seq, KXr_nil, QE, effOp, effPure, effNew, effBox, skipE, pureV, binV, partV, loadV, faddrV, solid, IV.cells, ofC, strip, lkT, lkH, ISt.app, opI, gO, gB, allB, gval, wrapG, dstOK, setD, mentTm, mentHp, IV.ment, IV.mentL, oneI, clean, enumT, Gives, Ideal.Fin, conv, conv0, IBlk.shape, Op.operands, reduceIte, reduceCtorEq, cond_true, Bool.or_false, Bool.and_true, Nat.reduceAdd, Nat.reduceLT, Nat.reduceLeDiff, Nat.reduceEqDiff, Nat.reduceBEq, Nat.add_zero, Nat.zero_add, and_self, implies_true, List.nil_append, List.cons_append, List.append_nil, List.all_cons, List.all_nil, Option.map_some, List.getD_cons_zero, List.getD_cons_succ, List.length_cons, List.length_nil, List.take_succ_cons, List.take_zero, List.take_nil, List.drop_succ_cons, List.drop_zero, tab3, tab30, hN, encP, w1, w2, w3, dotP]
def sp_impl_Point_dot : PSpec := ⟨fun xs => match xs with | [.agg [.num .i64 p1, .num .i64 p2], .agg [.num .i64 q1, .num .i64 q2]] => ((fun (p : Pt) (q : Pt) => Sm9 p) (p1, p2) (q1, q2)) ∧ ((fun (p : Pt) (q : Pt) => Sm9 q) (p1, p2) (q1, q2)) | _ => False, fun xs => match xs with | [.agg [.num _ p1, .num _ p2], .agg [.num _ q1, .num _ q2]] => (fun (p : Pt) (q : Pt) => .num .i64 (dotP p q)) (p1, p2) (q1, q2) | _ => .junk, false⟩
theorem gk_impl_Point_dot : ∀ args, sp_impl_Point_dot.pre args → ICall Try.prog 109 args (sp_impl_Point_dot.val args) := by
  intro args h
  unfold sp_impl_Point_dot at h ⊢; simp only at h ⊢; split at h
  · obtain ⟨h0, h1⟩ := h
    simp only [toPs_enc] at *
    exact c_impl_Point_dot (_, _) (_, _) h0 h1
  · exact h.elim
theorem en_impl_Point_dot : Enters Try.prog 109 := enters_of Try.func109 (by kernel_rfl) rfl


/-- The first of the farthest among the first n. -/
def farI (l : List Pt) (d : Pt) : Nat → Nat
  | 0 => 0
  | n + 1 => if dotP (pAt l (farI l d n)) d < dotP (pAt l n) d then n else farI l d n
theorem farI_lt (l : List Pt) (d : Pt) : ∀ n, 0 < n → farI l d n < n
  | 1, _ => by simp [farI]
  | n + 2, _ => by
    have := farI_lt l d (n + 1) (by omega)
    rw [farI]; split <;> omega
theorem farI_le (l : List Pt) (d : Pt) (n : Nat) : farI l d n ≤ n := by
  rcases Nat.eq_zero_or_pos n with rfl | h
  · simp [farI]
  · exact Nat.le_of_lt (farI_lt l d n h)
theorem farI_max (l : List Pt) (d : Pt) : ∀ n i, i < n → dotP (pAt l i) d ≤ dotP (pAt l (farI l d n)) d
  | n + 1, i, hi => by
    rw [farI]
    split
    · rename_i h
      rcases Nat.lt_or_ge i n with h1 | h1
      · have := farI_max l d n i h1; omega
      · rw [show i = n by omega]; exact Int.le_refl _
    · rename_i h
      rcases Nat.lt_or_ge i n with h1 | h1
      · exact farI_max l d n i h1
      · rw [show i = n by omega]; omega



/-- Where the farthest point stands; nowhere when something is not in order. -/
def extI (l : List Pt) (d : Pt) : Int := if okPs l = true ∧ 0 < l.length ∧ okP d = true then (farI l d l.length : Int) else -1



/-- The direction that a code draws. -/
def drawDir (b : List Int) : Pt := (aPoint (b.take 2000) (aPoints (b.take 2000) 0 8).2).1
theorem aPoints_pos {b : List Int} (hb : BytesOK b) {p : Nat} (hp : p ≤ 700000) {most : Int} (h0 : 0 ≤ most) (h1 : most ≤ 1000) : (aPoints b p most).2 ≤ p + 2100 := by
  obtain ⟨n1, n2⟩ := rNum_le hb (show p ≤ 900000 by omega) h0
  have hL : (rPoints b p most).length = rNum b p most := rLoop_len _ _ _ _
  unfold aPoints
  simp only []
  split
  · simp only []; omega
  · split
    · simp only []; omega
    · split
      · simp only []; omega
      · simp only []; omega

theorem rLoop_sm {b : List Int} (hb : BytesOK b) (k : Int) : ∀ n p, p + 2 * n ≤ 1000000 → SmL (rLoop b k n p)
  | 0, _, _ => fun p hp => by simp [rLoop] at hp
  | n + 1, p, h => fun q hq => by
    rcases List.mem_cons.1 hq with rfl | hq
    · have := rPoint_le hb (show p ≤ 1000000 by omega)
      unfold rAdj Sm sm1
      split
      · simp only []; omega
      · split
        · simp only []; omega
        · omega
    · exact rLoop_sm hb k n (p + 2) (by omega) q hq
theorem ext_yes {l : List Pt} {d : Pt} (h : okPs l = true ∧ 0 < l.length ∧ okP d = true) : extI l d = (farI l d l.length : Int) := if_pos h
theorem ext_no {l : List Pt} {d : Pt} (h : ¬ (okPs l = true ∧ 0 < l.length ∧ okP d = true)) : extI l d = -1 := if_neg h
/-- The hull reaches as far in each direction. -/
theorem ext_hull {l : List Pt} (d : Pt) (h0 : 0 < l.length) : 0 < (hullP l).length ∧ dotP (pAt (hullP l) (farI (hullP l) d (hullP l).length)) d = dotP (pAt l (farI l d l.length)) d := by
  have hh : 0 < (hullP l).length := by
    rcases Nat.eq_zero_or_pos (hullP l).length with h | h
    · have := hullP_nil.1 (List.length_eq_zero_iff.1 h)
      subst this; simp at h0
    · exact h
  refine ⟨hh, Int.le_antisymm ?_ ?_⟩
  · have h1 := farI_lt (hullP l) d _ hh
    obtain ⟨i, hi, he⟩ := List.getElem_of_mem (mem_hullP_sub (l := l) (v := pAt (hullP l) (farI (hullP l) d (hullP l).length)) (by
      rw [pAt, List.getD, List.getElem?_eq_getElem h1]; exact List.getElem_mem h1))
    have := farI_max l d l.length i hi
    rw [← he]
    simpa [pAt, List.getD, hi] using this
  · have h1 := farI_lt l d _ h0
    obtain ⟨v, hv, hle⟩ := hullP_sup l d.1 d.2 (q := pAt l (farI l d l.length)) (by
      rw [pAt, List.getD, List.getElem?_eq_getElem h1]; exact List.getElem_mem h1)
    rw [← dotP_lin, ← dotP_lin] at hle
    obtain ⟨i, hi, rfl⟩ := List.getElem_of_mem hv
    have := farI_max (hullP l) d _ i hi
    simp only [pAt, List.getD, List.getElem?_eq_getElem hi, Option.getD_some] at this
    exact Int.le_trans hle this

theorem okPs_sub {l m : List Pt} (h : okPs l = true) (hs : ∀ x ∈ m, x ∈ l) (hn : m.length ≤ l.length) : okPs m = true := by
  simp only [okPs, Bool.and_eq_true, List.all_eq_true, decide_eq_true_eq] at h ⊢
  exact ⟨fun x hx => h.1 x (hs x hx), by omega⟩


end Go.Proofs.Ytlifmigihfancaa
