/- Contracts: the reader of the drawn arguments. -/
import Derived.Test.YtlcndghaendieaaB4
import Derived.Laws.BitsLemmas
set_option linter.unusedVariables false
set_option linter.unusedSimpArgs false
namespace Go.Proofs.Ytlcndghaendieaa
open Go Go.Ideal Go.Pl Go.Sort

/-- The reader's box. -/
abbrev rdr (b : List Int) (p : Nat) : IBlk := .box 86 [.sl 1 (encBy b), .num .i64 p]
def BytesOK (b : List Int) : Prop := b.length ≤ 2000 ∧ ∀ i, i < b.length → 0 ≤ b.getD i 0 ∧ b.getD i 0 < 256

/-- The mixture at place k. -/
def mixI (b : List Int) (k : Nat) : Int := b.getD (k % b.length) 0 * 131 + b.getD ((k * 7 + 3) % b.length) 0 * 1117 + (k : Int) * 29 + ((k / b.length : Nat) : Int) * 53
/-- What the reader picks at place k. -/
def pickI (b : List Int) (k : Nat) (n : Int) : Int :=
  if n < 1 ∨ b = [] then 0 else if k < b.length then (b.getD k 0).tmod n else (bits .xor .i64 (mixI b k) ((mixI b k).tdiv 64)).tmod n

theorem mixI_le {b : List Int} (hb : BytesOK b) (h0 : b ≠ []) {k : Nat} (hk : k ≤ 1000000000) : 0 ≤ mixI b k ∧ mixI b k < 4611686018427387904 := by
  have hl : 0 < b.length := List.length_pos_iff.2 h0
  have h1 := hb.2 (k % b.length) (Nat.mod_lt _ hl)
  have h2 := hb.2 ((k * 7 + 3) % b.length) (Nat.mod_lt _ hl)
  have h3 : k / b.length ≤ k := Nat.div_le_self _ _
  unfold mixI
  generalize k / b.length = q at *
  omega
theorem xor_le {x y : Int} (hx : 0 ≤ x ∧ x < 4611686018427387904) (hy : 0 ≤ y ∧ y < 4611686018427387904) : 0 ≤ bits .xor .i64 x y := by
  obtain ⟨a, rfl⟩ : ∃ a : Nat, x = a := ⟨x.toNat, by omega⟩
  obtain ⟨b, rfl⟩ : ∃ b : Nat, y = b := ⟨y.toNat, by omega⟩
  have hlt : a ^^^ b < 2 ^ 62 := Nat.xor_lt_two_pow (by omega) (by omega)
  have h1 : (BitVec.ofInt 64 (a : Int)).toNat = a := by rw [BitVec.ofInt_natCast, BitVec.toNat_ofNat]; exact Nat.mod_eq_of_lt (by omega)
  have h2 : (BitVec.ofInt 64 (b : Int)).toNat = b := by rw [BitVec.ofInt_natCast, BitVec.toNat_ofNat]; exact Nat.mod_eq_of_lt (by omega)
  show 0 ≤ IntKind.i64.wrap ((BitVec.ofInt 64 (a : Int) ^^^ BitVec.ofInt 64 (b : Int)).toNat : Int)
  rw [BitVec.toNat_xor, h1, h2, wr (by omega) (by omega)]
  omega
theorem pick_nonneg {b : List Int} (hb : BytesOK b) {k : Nat} (hk : k ≤ 1000000000) (n : Int) : 0 ≤ pickI b k n ∧ (1 ≤ n → pickI b k n < n) ∧ (n < 1 → pickI b k n = 0) := by
  unfold pickI
  split
  · rename_i h; refine ⟨by omega, fun _ => by omega, fun _ => rfl⟩
  · rename_i h
    have h1 : 1 ≤ n := by omega
    have h0 : b ≠ [] := fun e => h (.inr e)
    have key : ∀ x : Int, 0 ≤ x → 0 ≤ x.tmod n ∧ x.tmod n < n := fun x hx => ⟨Int.tmod_nonneg _ hx, Int.tmod_lt_of_pos _ (by omega)⟩
    split
    · rename_i hk'
      have := key _ (hb.2 k hk').1
      exact ⟨this.1, fun _ => this.2, fun h => by omega⟩
    · have hm := mixI_le hb h0 hk
      have := key _ (xor_le hm (y := (mixI b k).tdiv 64) ⟨Int.tdiv_nonneg hm.1 (by decide), by rw [Int.tdiv_eq_ediv_of_nonneg hm.1]; omega⟩)
      exact ⟨this.1, fun _ => this.2, fun h => by omega⟩

def g_spec_newReader : List (Nat × PSpec) := []
theorem gok_spec_newReader : GOK Try.prog g_spec_newReader := gok0
def h_spec_newReader : List (Nat × HSpec) := []
theorem hok_spec_newReader : HOK Try.prog h_spec_newReader := hok0
theorem c_spec_newReader (b : List Int) (hsz : b.length ≤ 1048576) : HCall Try.prog 35 [.sl 1 (encBy b)] (sm ([])) (.ptr 0 0) (sm ([(0, rdr (b.take 2000) 0)])) := by
  refine hcall_V (G := g_spec_newReader) (H := []) [] tabOK mixed gok_spec_newReader hok_spec_newReader Try.func35 rfl Try.ntmps35 Try.results35 rfl (by kernel_rfl) fun F hN hlen => ?_
  simp only [sm]
  have el := len_encBy b
  simp only [V_seq, V_region, V_cond, W_nil, W_cons, effOp2, KN_seq, asB, effOp, effPure, pureV, binV, lenV, ofC, strip, lkT, ISt.app, opI, gO, gB, allB, gval, wrapG, dstOK, setD, enumT, Op.operands, Call.operands, List.append_toArray, reduceIte, reduceCtorEq, Nat.reduceLT, Nat.reduceEqDiff, ne_eq, not_false_eq_true, true_and, and_self, implies_true, List.nil_append, List.cons_append, List.append_nil, tab22, hN, el, rdr]
  refine brW_some (fun h => ?_) (fun h => ?_)
  · have hl : 2000 < b.length := by simp at h; omega
    simp only [V_seq, V_ret, V_region, W_nil, W_cons, effOp2, KN_seq, KXr_nil, QE, effOp, effPure, effNew, effBox, Option.isSome_some, skipE, pureV, sliceV, over, solid, buildL, IV.cells, ofC, strip, lkT, lkH, ISt.app, opI, gO, gB, allB, gval, wrapG, dstOK, setD, mentTm, mentHp, IV.ment, IV.mentL, oneI, conv, conv0, Op.operands, List.append_toArray, Array.append_empty, Option.toArray_none, Option.toArray_some, reduceIte, reduceCtorEq, cond_true, Bool.or_false, Bool.and_true, Nat.reduceAdd, Nat.reduceLT, Nat.reduceLeDiff, Nat.reduceEqDiff, Nat.zero_add, ne_eq, not_false_eq_true, true_and, and_true, false_and, and_self, false_implies, implies_true, forall_const, List.map_cons, List.map_nil, List.nil_append, List.cons_append, List.append_nil, List.all_cons, List.all_nil, Option.map_some, Option.map_none, List.getD_cons_zero, List.length_cons, List.length_nil, List.take_zero, List.drop_succ_cons, List.drop_zero, tab5, tab22, tab86, hN, FinH, resA, resV, SLe, SLe0, convTm, convHp, convB, el, encBy_take]
    refine ⟨by omega, fun i => if i = 0 then 10 else i, ?_⟩
    simp [convL, conv, conv0, clean]
    omega
  · have hl : b.length ≤ 2000 := by simp at h; omega
    have e : b.take 2000 = b := List.take_of_length_le hl
    simp only [V_seq, V_skip, V_ret, V_region, W_nil, W_cons, effOp2, KN_seq, KXr_nil, QE, effOp, effPure, effNew, effBox, Option.isSome_some, skipE, pureV, over, solid, buildL, IV.cells, ofC, strip, lkT, lkH, ISt.app, opI, gO, gB, allB, gval, wrapG, dstOK, setD, mentTm, mentHp, IV.ment, IV.mentL, oneI, conv, conv0, Op.operands, reduceIte, reduceCtorEq, cond_true, Bool.or_false, Bool.and_true, Nat.reduceAdd, Nat.reduceLT, Nat.reduceLeDiff, Nat.reduceEqDiff, Nat.zero_add, ne_eq, not_false_eq_true, true_and, and_true, false_and, and_self, false_implies, implies_true, List.map_cons, List.map_nil, List.nil_append, List.cons_append, List.append_nil, List.all_cons, List.all_nil, List.getD_cons_zero, List.length_cons, List.length_nil, List.take_zero, List.drop_succ_cons, List.drop_zero, tab86, hN, FinH, resA, resV, SLe, SLe0, convTm, convHp, convB, e]
    refine ⟨fun i => if i = 0 then 10 else i, ?_⟩
    simp [convL, conv, conv0, clean]
    omega
def hs_spec_newReader : HSpec := ⟨[true], fun xs hp => match xs, hp with | [.sl 1 es], [] => (isBy es) ∧ ((fun (b : List Int) => b.length ≤ 1048576) (toIs es)) | _, _ => False, fun xs hp => match xs, hp with | [.sl 1 es], [] => (fun (b : List Int) => (.ptr 0 0 : IV)) (toIs es) | _, _ => .junk, fun xs hp => match xs, hp with | [.sl 1 es], [] => (fun (b : List Int) => ([(0, rdr (b.take 2000) 0)] : List (Nat × IBlk))) (toIs es) | _, _ => []⟩
theorem hk_spec_newReader : ∀ args hp, hs_spec_newReader.pre args hp → HCall Try.prog 35 args (sm hp) (hs_spec_newReader.val args hp) (sm (hs_spec_newReader.hval args hp)) := by
  intro args hp h
  unfold hs_spec_newReader at h ⊢; simp only at h ⊢; split at h
  · obtain ⟨h1, h2⟩ := h; obtain ⟨l, rfl⟩ := isBy_ex h1; rw [toBy_enc] at *; exact c_spec_newReader l h2
  · exact h.elim
theorem en_spec_newReader : Enters Try.prog 35 := enters_of Try.func35 (by kernel_rfl) rfl


def g_spec_reader_pick : List (Nat × PSpec) := []
theorem gok_spec_reader_pick : GOK Try.prog g_spec_reader_pick := gok0
def h_spec_reader_pick : List (Nat × HSpec) := []
theorem hok_spec_reader_pick : HOK Try.prog h_spec_reader_pick := hok0
theorem c_spec_reader_pick (b : List Int) (p : Nat) (n : Int) (hb : BytesOK b) (hp : p ≤ 1000000) (hn : n ≤ 1000000) : HCall Try.prog 79 [.ptr 1000 0, .num .i64 n] (sm ([(1000, rdr b p)])) (.num .i64 (pickI b p n)) (sm ([(1000, rdr b (p + 1))])) := by
  refine hcall_V (G := g_spec_reader_pick) (H := []) [] tabOK mixed gok_spec_reader_pick hok_spec_reader_pick Try.func79 rfl Try.ntmps79 Try.results79 rfl (by kernel_rfl) fun F hN hlen => ?_
  simp only [sm]
  have el := len_encBy b
  have hw1 : IntKind.i64.wrap ((p : Int) + 1) = ((p + 1 : Nat) : Int) := by rw [wr (by omega) (by omega)]; omega
  have hw2 : IntKind.i64.wrap (((p + 1 : Nat) : Int) - 1) = (p : Int) := by rw [wr (by omega) (by omega)]; omega
  rcases Int.lt_or_le n 1 with hn1 | hn1
  · have hd : decide (n < 1) = true := by simpa using hn1
    have hpk : pickI b p n = 0 := by unfold pickI; rw [if_pos (.inl hn1)]
    simp only [V_seq, V_ret, V_region, V_cond, brW_true, W_nil, W_cons, effOp2, KN_seq, KXr_nil, KXr_seq, QE, asB, effOp, effPure, effPick, effStore, pureV, pickV, storeV, binV, partV, loadV, faddrV, lenV, over, solid, IV.cells, ofC, strip, lkT, lkH, ISt.app, opI, gO, gB, allB, gval, wrapG, dstOK, setD, oneI, clean, enumT, conv, conv0, IBlk.shape, Op.operands, Call.operands, List.append_toArray, reduceIte, reduceCtorEq, cond_true, Bool.and_true, Nat.reduceAdd, Nat.reduceLT, Nat.reduceLeDiff, Nat.reduceEqDiff, Nat.add_zero, Nat.zero_add, ne_eq, not_false_eq_true, true_and, and_true, and_self, false_implies, implies_true, List.map_cons, List.map_nil, List.nil_append, List.cons_append, List.append_nil, List.all_cons, List.all_nil, Option.map_some, Option.bind_some, List.getElem?_cons_zero, List.getElem?_cons_succ, List.getD_cons_zero, List.getD_cons_succ, List.length_cons, List.length_nil, List.take_succ_cons, List.take_zero, List.take_nil, List.drop_succ_cons, List.drop_zero, List.drop_nil, btf, Bool.true_eq_false, Bool.false_eq_true, tab3, tab22, tab86, hN, FinH, resA, resV, SLe, SLe0, convTm, convHp, convB, el, rdr, hw1, hd, hpk]
    exact ⟨id, by simp [convL, conv, conv0, clean]⟩
  · have hd : decide (n < 1) = false := by simp; omega
    by_cases hb0 : b = []
    · have hpk : pickI b p n = 0 := by unfold pickI; rw [if_pos (.inr hb0)]
      have hd2 : (((b.length : Nat) : Int) == 0) = true := by simp [hb0]
      simp only [V_seq, V_ret, V_region, V_cond, brW_true, W_nil, W_cons, effOp2, KN_seq, KXr_nil, KXr_seq, QE, asB, effOp, effPure, effPick, effStore, pureV, pickV, storeV, binV, partV, loadV, faddrV, lenV, over, solid, IV.cells, ofC, strip, lkT, lkH, ISt.app, opI, gO, gB, allB, gval, wrapG, dstOK, setD, oneI, clean, enumT, conv, conv0, IBlk.shape, Op.operands, Call.operands, List.append_toArray, reduceIte, reduceCtorEq, cond_true, cond_false, Bool.and_true, Nat.reduceAdd, Nat.reduceLT, Nat.reduceLeDiff, Nat.reduceEqDiff, Nat.add_zero, Nat.zero_add, ne_eq, not_false_eq_true, beq_self_eq_true, true_and, and_true, and_self, false_implies, implies_true, List.map_cons, List.map_nil, List.nil_append, List.cons_append, List.append_nil, List.all_cons, List.all_nil, Option.map_some, Option.bind_some, List.getElem?_cons_zero, List.getElem?_cons_succ, List.getD_cons_zero, List.getD_cons_succ, List.length_cons, List.length_nil, List.take_succ_cons, List.take_zero, List.take_nil, List.drop_succ_cons, List.drop_zero, List.drop_nil, Bool.false_eq_true, tab3, tab22, tab86, hN, FinH, resA, resV, SLe, SLe0, convTm, convHp, convB, el, rdr, hw1, hd, hpk, hd2]
      exact ⟨id, by simp [convL, conv, conv0, clean]⟩
    · have hl : 0 < b.length := List.length_pos_iff.2 hb0
      have hd2 : (((b.length : Nat) : Int) == 0) = false := by simp; exact hb0
      simp only [V_seq, V_skip, V_region, V_cond, brW_false, W_nil, W_cons, effOp2, KN_seq, asB, effOp, effPure, effPick, effStore, pureV, pickV, storeV, binV, partV, loadV, faddrV, lenV, over, solid, IV.cells, ofC, strip, lkT, lkH, ISt.app, opI, gO, gB, allB, gval, wrapG, dstOK, setD, oneI, enumT, IBlk.shape, Op.operands, Call.operands, List.append_toArray, reduceIte, reduceCtorEq, cond_true, cond_false, Bool.and_true, Nat.reduceAdd, Nat.reduceLT, Nat.reduceLeDiff, Nat.reduceEqDiff, Nat.add_zero, Nat.zero_add, ne_eq, not_false_eq_true, beq_self_eq_true, true_and, and_self, implies_true, List.nil_append, List.cons_append, List.append_nil, List.all_cons, List.all_nil, Option.map_some, Option.bind_some, List.getElem?_cons_zero, List.getElem?_cons_succ, List.getD_cons_zero, List.getD_cons_succ, List.length_cons, List.length_nil, List.take_succ_cons, List.take_zero, List.take_nil, List.drop_succ_cons, List.drop_zero, List.drop_nil, Bool.false_eq_true, tab3, tab22, tab86, hN, el, rdr, hw1, hw2, hd, hd2]
      refine brW_some (fun h => ?_) (fun h => ?_)
      · have hlt : p < b.length := by simpa using h
        have g1 := getD_encBy hlt
        have hpk : pickI b p n = (b.getD p 0).tmod n := by unfold pickI; rw [if_neg (by simp [hb0]; omega), if_pos hlt]
        have hc : IntKind.i64.wrap (b.getD p 0) = b.getD p 0 := by have := hb.2 p hlt; exact wr (by omega) (by omega)
        simp only [V_seq, V_ret, V_region, W_nil, W_cons, effOp2, KN_seq, KXr_nil, KXr_seq, QE, effOp, effPure, Option.isSome_some, pureV, binV, partV, eltV, loadV, faddrV, iaddrV, strip, lkT, lkH, ISt.app, opI, gO, gB, allB, gval, wrapG, dstOK, setD, clean, conv, conv0, IBlk.shape, Op.operands, reduceIte, reduceCtorEq, Nat.reduceAdd, Nat.reduceLT, Nat.reduceLeDiff, Nat.reduceEqDiff, Nat.add_zero, Nat.zero_add, ne_eq, not_false_eq_true, true_and, and_true, and_self, false_implies, implies_true, forall_const, List.map_cons, List.map_nil, List.nil_append, List.cons_append, Option.map_some, List.getD_cons_zero, List.length_cons, List.length_nil, List.take_succ_cons, List.take_zero, List.drop_zero, tab3, tab5, tab22, tab86, hN, Int.toNat_natCast, FinH, resA, resV, SLe, SLe0, convTm, convHp, convB, el, Int.toNat_natCast, g1, hc, hpk]
        repeat refine And.intro (by first | omega | (simp; done) | (simp; omega)) ?_
        exact ⟨id, by simp [convL, conv, conv0, clean]⟩
      · have hge : b.length ≤ p := by simp at h; omega
        have hm1 : p % b.length < b.length := Nat.mod_lt _ hl
        have hm2 : (p * 7 + 3) % b.length < b.length := Nat.mod_lt _ hl
        have g1 := getD_encBy hm1
        have g2 := getD_encBy hm2
        have b1 := hb.2 _ hm1
        have b2 := hb.2 _ hm2
        have q0 : p / b.length ≤ p := Nat.div_le_self _ _
        have hpk : pickI b p n = (bits .xor .i64 (mixI b p) ((mixI b p).tdiv 64)).tmod n := by unfold pickI; rw [if_neg (by simp [hb0]; omega), if_neg (by omega)]
        have t1 : (p : Int).tmod (b.length : Int) = ((p % b.length : Nat) : Int) := by rw [Int.tmod_eq_emod_of_nonneg (by omega)]; simp
        have w1 : IntKind.i64.wrap ((p : Int) * 7) = ((p * 7 : Nat) : Int) := by rw [wr (by omega) (by omega)]; omega
        have w2 : IntKind.i64.wrap (((p * 7 : Nat) : Int) + 3) = ((p * 7 + 3 : Nat) : Int) := by rw [wr (by omega) (by omega)]; omega
        have t2 : ((p * 7 + 3 : Nat) : Int).tmod (b.length : Int) = (((p * 7 + 3) % b.length : Nat) : Int) := by rw [Int.tmod_eq_emod_of_nonneg (by omega)]; simp
        have t3 : (p : Int).tdiv (b.length : Int) = ((p / b.length : Nat) : Int) := by rw [Int.tdiv_eq_ediv_of_nonneg (by omega)]; simp
        have hm := mixI_le hb hb0 (show p ≤ 1000000000 by omega)
        have hmd : mixI b p = b.getD (p % b.length) 0 * 131 + b.getD ((p * 7 + 3) % b.length) 0 * 1117 + (p : Int) * 29 + ((p / b.length : Nat) : Int) * 53 := rfl
        generalize b.getD (p % b.length) 0 = x1 at *
        generalize b.getD ((p * 7 + 3) % b.length) 0 = x2 at *
        generalize hq : p / b.length = q at *
        have w3 : IntKind.i64.wrap x1 = x1 := wr (by omega) (by omega)
        have w4 : IntKind.i64.wrap (x1 * 131) = x1 * 131 := wr (by omega) (by omega)
        have w5 : IntKind.i64.wrap x2 = x2 := wr (by omega) (by omega)
        have w6 : IntKind.i64.wrap (x2 * 1117) = x2 * 1117 := wr (by omega) (by omega)
        have w7 : IntKind.i64.wrap ((p : Int) * 29) = (p : Int) * 29 := wr (by omega) (by omega)
        have w8 : IntKind.i64.wrap (q : Int) = (q : Int) := wr (by omega) (by omega)
        have w9 : IntKind.i64.wrap ((q : Int) * 53) = (q : Int) * 53 := wr (by omega) (by omega)
        have w10 : IntKind.i64.wrap (x1 * 131 + x2 * 1117) = x1 * 131 + x2 * 1117 := wr (by omega) (by omega)
        have w11 : IntKind.i64.wrap (x1 * 131 + x2 * 1117 + (p : Int) * 29) = x1 * 131 + x2 * 1117 + (p : Int) * 29 := wr (by omega) (by omega)
        have w12 : IntKind.i64.wrap (x1 * 131 + x2 * 1117 + (p : Int) * 29 + (q : Int) * 53) = mixI b p := by rw [hmd]; exact wr (by omega) (by omega)
        have w13 : IntKind.i64.wrap ((mixI b p).tdiv 64) = (mixI b p).tdiv 64 := by rw [Int.tdiv_eq_ediv_of_nonneg hm.1]; exact wr (by omega) (by omega)
        simp only [V_seq, V_skip, V_ret, V_region, V_draw, drawW, pairsOf, W_nil, W_cons, WD_nil, WD_cons, effOp2, effOp3, KN_seq, KXr_nil, QE, effOp, effPure, Option.isSome_some, pureV, binV, partV, eltV, loadV, faddrV, iaddrV, lenV, ofC, strip, lkT, lkH, ISt.app, opI, gO, gB, allB, gval, wrapG, dstOK, setD, clean, conv, conv0, IBlk.shape, Op.operands, Call.operands, List.append_toArray, reduceIte, reduceCtorEq, Nat.reduceAdd, Nat.reduceLT, Nat.reduceLeDiff, Nat.reduceEqDiff, Nat.add_zero, Nat.zero_add, ne_eq, not_false_eq_true, true_and, and_true, and_self, false_implies, implies_true, forall_const, List.map_cons, List.map_nil, List.nil_append, List.cons_append, Option.map_some, List.getD_cons_zero, List.length_cons, List.length_nil, List.take_succ_cons, List.take_zero, List.drop_zero, tab3, tab5, tab22, tab86, hN, Int.toNat_natCast, FinH, resA, resV, SLe, SLe0, convTm, convHp, convB, el, Int.toNat_natCast, t1, t2, t3, w1, w2, g1, g2, w3, w4, w5, w6, w7, w8, w9, w10, w11, w12, w13, hpk]
        repeat refine And.intro (by first | omega | (simp; done) | (simp; omega)) ?_
        exact ⟨id, by simp [convL, conv, conv0, clean]⟩
def hs_spec_reader_pick : HSpec := ⟨[false, false], fun xs hp => match xs, hp with | [.ptr 1000 0, .num .i64 n], [(1000, .box ty [.sl 1 es, .num .i64 pz])] => (isBy es) ∧ (ty = 86) ∧ (pz = (pz.toNat : Int)) ∧ ((fun (b : List Int) (p : Nat) (n : Int) => BytesOK b) (toIs es) pz.toNat n) ∧ ((fun (b : List Int) (p : Nat) (n : Int) => p ≤ 1000000) (toIs es) pz.toNat n) ∧ ((fun (b : List Int) (p : Nat) (n : Int) => n ≤ 1000000) (toIs es) pz.toNat n) | _, _ => False, fun xs hp => match xs, hp with | [.ptr 1000 0, .num .i64 n], [(1000, .box ty [.sl 1 es, .num .i64 pz])] => (fun (b : List Int) (p : Nat) (n : Int) => (.num .i64 (pickI b p n) : IV)) (toIs es) pz.toNat n | _, _ => .junk, fun xs hp => match xs, hp with | [.ptr 1000 0, .num .i64 n], [(1000, .box ty [.sl 1 es, .num .i64 pz])] => (fun (b : List Int) (p : Nat) (n : Int) => ([(1000, rdr b (p + 1))] : List (Nat × IBlk))) (toIs es) pz.toNat n | _, _ => []⟩
theorem hk_spec_reader_pick : ∀ args hp, hs_spec_reader_pick.pre args hp → HCall Try.prog 79 args (sm hp) (hs_spec_reader_pick.val args hp) (sm (hs_spec_reader_pick.hval args hp)) := by
  intro args hp h
  unfold hs_spec_reader_pick at h ⊢; simp only at h ⊢; split at h
  · obtain ⟨h1, rfl, h3, h4, h5, h6⟩ := h; obtain ⟨l, rfl⟩ := isBy_ex h1; rw [toBy_enc] at *; rw [h3]; exact c_spec_reader_pick l _ _ h4 (by simpa using h5) h6
  · exact h.elim
theorem en_spec_reader_pick : Enters Try.prog 79 := enters_of Try.func79 (by kernel_rfl) rfl


end Go.Proofs.Ytlcndghaendieaa
