/- Contracts: products of points. -/
import Derived.Test.YtiadicmnbjaknaaB8
set_option linter.unusedVariables false
set_option linter.unusedSimpArgs false
set_option maxHeartbeats 1600000
set_option maxRecDepth 100000
namespace Go.Proofs.Ytiadicmnbjaknaa
open Go Go.Ideal Go.Pl Go.Sort

def dotP (p q : Pt) : Int := p.1 * q.1 + p.2 * q.2
theorem dotP_lin (p q : Pt) : dotP p q = lin q.1 q.2 p := by unfold dotP lin; grind
theorem sm_mul {x y : Int} (hx : sm1 x) (hy : sm1 y) : -10000000000 ≤ x * y ∧ x * y ≤ 10000000000 := by
  have := mulb (A := 100000) (B := 100000) (by unfold sm1 at hx; omega) (by unfold sm1 at hy; omega)
  omega
/-- Numbers whose products have room. -/
def Sm9 (p : Pt) : Prop := (-1000000000 ≤ p.1 ∧ p.1 ≤ 1000000000) ∧ (-1000000000 ≤ p.2 ∧ p.2 ≤ 1000000000)
theorem Sm.nine {p : Pt} (h : Sm p) : Sm9 p := by unfold Sm sm1 at h; unfold Sm9; omega
theorem Sm.way {p q : Pt} (h : Sm p) (k : Sm q) : Sm9 (wayP p q) := by unfold Sm sm1 at h k; unfold Sm9 wayP; simp only []; omega
def g_impl_Point_dot : List (Nat × PSpec) := []
theorem gok_impl_Point_dot : GOK Try.prog g_impl_Point_dot := gok0
def h_impl_Point_dot : List (Nat × HSpec) := []
theorem hok_impl_Point_dot : HOK Try.prog h_impl_Point_dot := hok0
theorem c_impl_Point_dot (p : Pt) (q : Pt) (hp : Sm9 p) (hq : Sm9 q) : ICall Try.prog 62 [encP p, encP q] (.num .i64 (dotP p q)) := by
  refine icall_V (G := g_impl_Point_dot) (H := []) [] tabOK mixed gok_impl_Point_dot hok_impl_Point_dot Try.func62 rfl Try.ntmps62 Try.results62 rfl (by kernel_rfl) fun F hN hlen => ?_
  have h1 := mulb hp.1 hq.1
  have h2 := mulb hp.2 hq.2
  have w1 : IntKind.i64.wrap (p.1 * q.1) = p.1 * q.1 := wr (by omega) (by omega)
  have w2 : IntKind.i64.wrap (p.2 * q.2) = p.2 * q.2 := wr (by omega) (by omega)
  have w3 : IntKind.i64.wrap (p.1 * q.1 + p.2 * q.2) = p.1 * q.1 + p.2 * q.2 := wr (by omega) (by omega)
  simp only [V_seq, V_ret, V_region, W_nil, W_cons, effOp2, KN_seq, KXr_nil, QE, effOp, effPure, effNew, effBox, skipE, pureV, binV, partV, loadV, faddrV, solid, IV.cells, ofC, strip, lkT, lkH, ISt.app, opI, gO, gB, allB, gval, wrapG, dstOK, setD, mentTm, mentHp, IV.ment, IV.mentL, oneI, clean, enumT, Gives, Ideal.Fin, conv, conv0, IBlk.shape, Op.operands, reduceIte, reduceCtorEq, cond_true, Bool.or_false, Bool.and_true, Nat.reduceAdd, Nat.reduceLT, Nat.reduceLeDiff, Nat.reduceEqDiff, Nat.reduceBEq, Nat.add_zero, Nat.zero_add, and_self, implies_true, List.nil_append, List.cons_append, List.append_nil, List.all_cons, List.all_nil, Option.map_some, List.getD_cons_zero, List.getD_cons_succ, List.length_cons, List.length_nil, List.take_succ_cons, List.take_zero, List.take_nil, List.drop_succ_cons, List.drop_zero, tab3, tab38, hN, encP, w1, w2, w3, dotP]
def sp_impl_Point_dot : PSpec := ⟨fun xs => match xs with | [.agg [.num .i64 p1, .num .i64 p2], .agg [.num .i64 q1, .num .i64 q2]] => ((fun (p : Pt) (q : Pt) => Sm9 p) (p1, p2) (q1, q2)) ∧ ((fun (p : Pt) (q : Pt) => Sm9 q) (p1, p2) (q1, q2)) | _ => False, fun xs => match xs with | [.agg [.num _ p1, .num _ p2], .agg [.num _ q1, .num _ q2]] => (fun (p : Pt) (q : Pt) => .num .i64 (dotP p q)) (p1, p2) (q1, q2) | _ => .junk, false⟩
theorem gk_impl_Point_dot : ∀ args, sp_impl_Point_dot.pre args → ICall Try.prog 62 args (sp_impl_Point_dot.val args) := by
  intro args h
  unfold sp_impl_Point_dot at h ⊢; simp only at h ⊢; split at h
  · obtain ⟨h0, h1⟩ := h
    try simp only [toPs_enc] at *
    exact c_impl_Point_dot (_, _) (_, _) h0 h1
  · exact h.elim
theorem en_impl_Point_dot : Enters Try.prog 62 := enters_of Try.func62 (by kernel_rfl) rfl


end Go.Proofs.Ytiadicmnbjaknaa
