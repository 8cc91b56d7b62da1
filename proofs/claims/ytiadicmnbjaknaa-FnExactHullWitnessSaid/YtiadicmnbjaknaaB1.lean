/- How points, numbers, and rows of them stand for the program's values; lists of contracts. -/
import Derived.Test.YtiadicmnbjaknaaCb
import Derived.Test.YtiadicmnbjaknaaTab
import Derived.Test.YtiadicmnbjaknaaPl11
import Derived.Shelf.Abstract
set_option linter.unusedVariables false
set_option linter.unusedSimpArgs false
namespace Go.Proofs.Ytiadicmnbjaknaa
open Go Go.Ideal Go.Pl

theorem mixed : Try.prog.follows .mixedOrders = true := by kernel_rfl
theorem gok0 : GOK Try.prog [] := fun f args h => h.elim
theorem hok0 : HOK Try.prog [] := fun f sp h => (by simp at h)
theorem gok_cons {P : Program} {f : Nat} {sp : PSpec} {G : List (Nat × PSpec)} (h : ∀ args, sp.pre args → ICall P f args (sp.val args)) (he : Enters P f) (hG : GOK P G) (ho : sp.own = false := by rfl) : GOK P ((f, sp) :: G) := by
  intro g args hp
  simp only [lkG] at hp ⊢
  by_cases e : f = g
  · subst e
    simp only [if_true] at hp ⊢
    exact ⟨⟨h args hp, fun hw => by rw [ho] at hw; cases hw⟩, he⟩
  · simp only [if_neg e] at hp ⊢
    exact hG g args hp
/-- A contract whose result lies in new memory. -/
theorem gok_consO {P : Program} {f : Nat} {sp : PSpec} {G : List (Nat × PSpec)} (h : ∀ args, sp.pre args → ICallF P f args (sp.val args) ∧ ∀ id, (sp.val args).ment id = false) (he : Enters P f) (hG : GOK P G) : GOK P ((f, sp) :: G) := by
  intro g args hp
  simp only [lkG] at hp ⊢
  by_cases e : f = g
  · subst e
    simp only [if_true] at hp ⊢
    exact ⟨⟨icall_of_F (h args hp).1 (h args hp).2, fun _ => (h args hp).1⟩, he⟩
  · simp only [if_neg e] at hp ⊢
    exact hG g args hp
theorem hok_cons {P : Program} {f : Nat} {sp : HSpec} {H : List (Nat × HSpec)} (h : ∀ args hp, sp.pre args hp → HCall P f args (sm hp) (sp.val args hp) (sm (sp.hval args hp))) (he : Enters P f) (hH : HOK P H) : HOK P ((f, sp) :: H) := by
  intro g sg hm
  rcases List.mem_cons.1 hm with e | hm
  · injection e with e1 e2
    subst e1 e2
    exact ⟨h, he⟩
  · exact hH g sg hm

theorem pe {α β : Type} (p : α × β) : (p.1, p.2) = p := rfl
abbrev Tr := Int × Int × Int
abbrev Qd := Pt × Pt

def encP (p : Pt) : IV := .agg [.num .i64 p.1, .num .i64 p.2]
def encT (t : Tr) : IV := .agg [.num .i64 t.1, .num .i64 t.2.1, .num .i64 t.2.2]
def encQ (q : Qd) : IV := .agg [.num .i64 q.1.1, .num .i64 q.1.2, .num .i64 q.2.1, .num .i64 q.2.2]
def decP : IV → Pt
  | .agg [.num _ x, .num _ y] => (x, y)
  | _ => (0, 0)
def decT : IV → Tr
  | .agg [.num _ x, .num _ y, .num _ z] => (x, y, z)
  | _ => (0, 0, 0)
def decQ : IV → Qd
  | .agg [.num _ x, .num _ y, .num _ z, .num _ u] => ((x, y), (z, u))
  | _ => ((0, 0), (0, 0))
def decI : IV → Int
  | .num _ n => n
  | _ => 0
def decB : IV → Bool
  | .bool b => b
  | _ => false
def encPs (l : List Pt) : List IV := l.map encP
def encTs (l : List Tr) : List IV := l.map encT
def encQs (l : List Qd) : List IV := l.map encQ
def encI (l : List Int) : List IV := l.map (IV.num .i64)
def encBl (l : List Bool) : List IV := l.map IV.bool
def encBy (l : List Int) : List IV := l.map (IV.num .u8)
def toPs (es : List IV) : List Pt := es.map decP
def toTs (es : List IV) : List Tr := es.map decT
def toQs (es : List IV) : List Qd := es.map decQ
def toIs (es : List IV) : List Int := es.map decI
def toBls (es : List IV) : List Bool := es.map decB
def isPs : List IV → Prop
  | [] => True
  | .agg [.num .i64 _, .num .i64 _] :: l => isPs l
  | _ :: _ => False
def isTs : List IV → Prop
  | [] => True
  | .agg [.num .i64 _, .num .i64 _, .num .i64 _] :: l => isTs l
  | _ :: _ => False
def isQs : List IV → Prop
  | [] => True
  | .agg [.num .i64 _, .num .i64 _, .num .i64 _, .num .i64 _] :: l => isQs l
  | _ :: _ => False
def isIs : List IV → Prop
  | [] => True
  | .num .i64 _ :: l => isIs l
  | _ :: _ => False
def isBls : List IV → Prop
  | [] => True
  | .bool _ :: l => isBls l
  | _ :: _ => False
def isBy : List IV → Prop
  | [] => True
  | .num .u8 _ :: l => isBy l
  | _ :: _ => False

theorem toPs_enc (l : List Pt) : toPs (encPs l) = l := by simp [toPs, encPs, Function.comp_def, decP, encP]
theorem toTs_enc (l : List Tr) : toTs (encTs l) = l := by simp [toTs, encTs, Function.comp_def, decT, encT]
theorem toQs_enc (l : List Qd) : toQs (encQs l) = l := by simp [toQs, encQs, Function.comp_def, decQ, encQ]
theorem toIs_enc (l : List Int) : toIs (encI l) = l := by simp [toIs, encI, Function.comp_def, decI]
theorem toBls_enc (l : List Bool) : toBls (encBl l) = l := by simp [toBls, encBl, Function.comp_def, decB]
theorem toBy_enc (l : List Int) : toIs (encBy l) = l := by simp [toIs, encBy, Function.comp_def, decI]
theorem isPs_enc (l : List Pt) : isPs (encPs l) = True := by induction l with | nil => rfl | cons x l ih => exact ih
theorem isTs_enc (l : List Tr) : isTs (encTs l) = True := by induction l with | nil => rfl | cons x l ih => exact ih
theorem isQs_enc (l : List Qd) : isQs (encQs l) = True := by induction l with | nil => rfl | cons x l ih => exact ih
theorem isIs_enc (l : List Int) : isIs (encI l) = True := by induction l with | nil => rfl | cons x l ih => exact ih
theorem isBls_enc (l : List Bool) : isBls (encBl l) = True := by induction l with | nil => rfl | cons x l ih => exact ih
theorem isBy_enc (l : List Int) : isBy (encBy l) = True := by induction l with | nil => rfl | cons x l ih => exact ih
theorem isP_ex : ∀ {es : List IV}, isPs es → ∃ l, es = encPs l
  | [], _ => ⟨[], rfl⟩
  | e :: es, h => by
    unfold isPs at h
    split at h
    · rename_i he; simp at he
    · rename_i he
      obtain ⟨rfl, rfl⟩ := List.cons.inj he
      obtain ⟨l, rfl⟩ := isP_ex h
      exact ⟨(_, _) :: l, rfl⟩
    · exact h.elim
theorem isT_ex : ∀ {es : List IV}, isTs es → ∃ l, es = encTs l
  | [], _ => ⟨[], rfl⟩
  | e :: es, h => by
    unfold isTs at h
    split at h
    · rename_i he; simp at he
    · rename_i he
      obtain ⟨rfl, rfl⟩ := List.cons.inj he
      obtain ⟨l, rfl⟩ := isT_ex h
      exact ⟨(_, _, _) :: l, rfl⟩
    · exact h.elim
theorem isQ_ex : ∀ {es : List IV}, isQs es → ∃ l, es = encQs l
  | [], _ => ⟨[], rfl⟩
  | e :: es, h => by
    unfold isQs at h
    split at h
    · rename_i he; simp at he
    · rename_i he
      obtain ⟨rfl, rfl⟩ := List.cons.inj he
      obtain ⟨l, rfl⟩ := isQ_ex h
      exact ⟨((_, _), (_, _)) :: l, rfl⟩
    · exact h.elim
theorem isI_ex : ∀ {es : List IV}, isIs es → ∃ l, es = encI l
  | [], _ => ⟨[], rfl⟩
  | e :: es, h => by
    unfold isIs at h
    split at h
    · rename_i he; simp at he
    · rename_i he
      obtain ⟨rfl, rfl⟩ := List.cons.inj he
      obtain ⟨l, rfl⟩ := isI_ex h
      exact ⟨_ :: l, rfl⟩
    · exact h.elim
theorem isBl_ex : ∀ {es : List IV}, isBls es → ∃ l, es = encBl l
  | [], _ => ⟨[], rfl⟩
  | e :: es, h => by
    unfold isBls at h
    split at h
    · rename_i he; simp at he
    · rename_i he
      obtain ⟨rfl, rfl⟩ := List.cons.inj he
      obtain ⟨l, rfl⟩ := isBl_ex h
      exact ⟨_ :: l, rfl⟩
    · exact h.elim
theorem isBy_ex : ∀ {es : List IV}, isBy es → ∃ l, es = encBy l
  | [], _ => ⟨[], rfl⟩
  | e :: es, h => by
    unfold isBy at h
    split at h
    · rename_i he; simp at he
    · rename_i he
      obtain ⟨rfl, rfl⟩ := List.cons.inj he
      obtain ⟨l, rfl⟩ := isBy_ex h
      exact ⟨_ :: l, rfl⟩
    · exact h.elim
theorem isPs_nil : isPs [] = True := rfl
theorem toPs_nil : toPs [] = [] := rfl
theorem isTs_nil : isTs [] = True := rfl
theorem toTs_nil : toTs [] = [] := rfl
theorem isQs_nil : isQs [] = True := rfl
theorem toQs_nil : toQs [] = [] := rfl
theorem isIs_nil : isIs [] = True := rfl
theorem toIs_nil : toIs [] = [] := rfl
theorem isPs_cons (x y : Int) (l : List IV) : isPs (.agg [.num .i64 x, .num .i64 y] :: l) = isPs l := rfl
theorem toPs_cons (x y : Int) (l : List IV) : toPs (.agg [.num .i64 x, .num .i64 y] :: l) = (x, y) :: toPs l := rfl
theorem isTs_cons (x y z : Int) (l : List IV) : isTs (.agg [.num .i64 x, .num .i64 y, .num .i64 z] :: l) = isTs l := rfl
theorem toTs_cons (x y z : Int) (l : List IV) : toTs (.agg [.num .i64 x, .num .i64 y, .num .i64 z] :: l) = (x, y, z) :: toTs l := rfl
theorem isQs_cons (x y z u : Int) (l : List IV) : isQs (.agg [.num .i64 x, .num .i64 y, .num .i64 z, .num .i64 u] :: l) = isQs l := rfl
theorem toQs_cons (x y z u : Int) (l : List IV) : toQs (.agg [.num .i64 x, .num .i64 y, .num .i64 z, .num .i64 u] :: l) = ((x, y), (z, u)) :: toQs l := rfl
theorem isIs_cons (x : Int) (l : List IV) : isIs (.num .i64 x :: l) = isIs l := rfl
theorem toIs_cons (x : Int) (l : List IV) : toIs (.num .i64 x :: l) = x :: toIs l := rfl

theorem len_encPs (l : List Pt) : (encPs l).length = l.length := by simp [encPs]
theorem len_encTs (l : List Tr) : (encTs l).length = l.length := by simp [encTs]
theorem len_encQs (l : List Qd) : (encQs l).length = l.length := by simp [encQs]
theorem len_encI (l : List Int) : (encI l).length = l.length := by simp [encI]
theorem len_encBl (l : List Bool) : (encBl l).length = l.length := by simp [encBl]
theorem len_encBy (l : List Int) : (encBy l).length = l.length := by simp [encBy]
abbrev pAt (l : List Pt) (i : Nat) : Pt := l.getD i (0, 0)
abbrev qAt (l : List Qd) (i : Nat) : Qd := l.getD i ((0, 0), (0, 0))
abbrev tAt (l : List Tr) (i : Nat) : Tr := l.getD i (0, 0, 0)
theorem getD_encPs {l : List Pt} {i : Nat} (h : i < l.length) : (encPs l).getD i .junk = .agg [.num .i64 (pAt l i).1, .num .i64 (pAt l i).2] := by
  rw [encPs, getD_map (d := (0, 0)) h]; rfl
theorem getD_encQs {l : List Qd} {i : Nat} (h : i < l.length) : (encQs l).getD i .junk = .agg [.num .i64 (qAt l i).1.1, .num .i64 (qAt l i).1.2, .num .i64 (qAt l i).2.1, .num .i64 (qAt l i).2.2] := by
  rw [encQs, getD_map (d := ((0, 0), (0, 0))) h]; rfl
theorem getD_encTs {l : List Tr} {i : Nat} (h : i < l.length) : (encTs l).getD i .junk = .agg [.num .i64 (tAt l i).1, .num .i64 (tAt l i).2.1, .num .i64 (tAt l i).2.2] := by
  rw [encTs, getD_map (d := (0, 0, 0)) h]; rfl
theorem getD_encI {l : List Int} {i : Nat} (h : i < l.length) : (encI l).getD i .junk = .num .i64 (l.getD i 0) := by
  rw [encI, getD_map (d := 0) h]
theorem getD_encBl {l : List Bool} {i : Nat} (h : i < l.length) : (encBl l).getD i .junk = .bool (l.getD i false) := by
  rw [encBl, getD_map (d := false) h]
theorem getD_encBy {l : List Int} {i : Nat} (h : i < l.length) : (encBy l).getD i .junk = .num .u8 (l.getD i 0) := by
  rw [encBy, getD_map (d := 0) h]
theorem noSl_encPs : ∀ l : List Pt, noSlL (encPs l) = true
  | [] => rfl
  | p :: l => by show noSlL (encP p :: encPs l) = true; rw [noSlL, noSl_encPs l]; rfl
theorem encPs_take (l : List Pt) (n : Nat) : (encPs l).take n = encPs (l.take n) := by simp [encPs, List.map_take]
theorem take_eq_of {α : Type} {l A : List α} (h : l = A) : l = A.take l.length := by subst h; simp
theorem take_eq_of' {α : Type} {l A : List α} {n : Nat} (h : l = A) (hn : n = l.length) : l = A.take n := by subst h hn; simp
theorem take_encPs (l : List Pt) : (encPs l).take l.length = encPs l := List.take_of_length_le (by rw [len_encPs]; exact Nat.le_refl _)
theorem take_encI (l : List Int) : (encI l).take l.length = encI l := List.take_of_length_le (by rw [len_encI]; exact Nat.le_refl _)
theorem take_encQs (l : List Qd) : (encQs l).take l.length = encQs l := List.take_of_length_le (by rw [len_encQs]; exact Nat.le_refl _)
theorem take_encTs (l : List Tr) : (encTs l).take l.length = encTs l := List.take_of_length_le (by rw [len_encTs]; exact Nat.le_refl _)
theorem isEmpty_encPs (l : List Pt) : (encPs l).isEmpty = l.isEmpty := by cases l <;> rfl
theorem isEmpty_encI (l : List Int) : (encI l).isEmpty = l.isEmpty := by cases l <;> rfl
theorem encPs_drop (l : List Pt) (n : Nat) : (encPs l).drop n = encPs (l.drop n) := by simp [encPs, List.map_drop]
theorem encPs_app (l m : List Pt) : encPs l ++ encPs m = encPs (l ++ m) := by simp [encPs]
theorem encPs_cons (x y : Int) (m : List Pt) : (IV.agg [.num .i64 x, .num .i64 y]) :: encPs m = encPs ((x, y) :: m) := rfl
theorem encPs_one (p : Pt) : [IV.agg [.num .i64 p.1, .num .i64 p.2]] = encPs [p] := rfl
theorem encPs_nil : encPs [] = [] := rfl
theorem encPs_set (l : List Pt) (m : Nat) (p : Pt) : (encPs l).set m (.agg [.num .i64 p.1, .num .i64 p.2]) = encPs (l.set m p) := by
  simp only [encPs, List.map_set]; rfl
theorem encQs_take (l : List Qd) (n : Nat) : (encQs l).take n = encQs (l.take n) := by simp [encQs, List.map_take]
theorem encQs_drop (l : List Qd) (n : Nat) : (encQs l).drop n = encQs (l.drop n) := by simp [encQs, List.map_drop]
theorem encQs_app (l m : List Qd) : encQs l ++ encQs m = encQs (l ++ m) := by simp [encQs]
theorem encQs_one (q : Qd) : [IV.agg [.num .i64 q.1.1, .num .i64 q.1.2, .num .i64 q.2.1, .num .i64 q.2.2]] = encQs [q] := rfl
theorem encTs_take (l : List Tr) (n : Nat) : (encTs l).take n = encTs (l.take n) := by simp [encTs, List.map_take]
theorem encTs_drop (l : List Tr) (n : Nat) : (encTs l).drop n = encTs (l.drop n) := by simp [encTs, List.map_drop]
theorem encTs_app (l m : List Tr) : encTs l ++ encTs m = encTs (l ++ m) := by simp [encTs]
theorem encTs_one (t : Tr) : [IV.agg [.num .i64 t.1, .num .i64 t.2.1, .num .i64 t.2.2]] = encTs [t] := rfl
theorem encI_take (l : List Int) (n : Nat) : (encI l).take n = encI (l.take n) := by simp [encI, List.map_take]
theorem encI_drop (l : List Int) (n : Nat) : (encI l).drop n = encI (l.drop n) := by simp [encI, List.map_drop]
theorem encI_app (l m : List Int) : encI l ++ encI m = encI (l ++ m) := by simp [encI]
theorem encI_one (n : Int) : [IV.num .i64 n] = encI [n] := rfl
theorem encI_set (l : List Int) (m : Nat) (n : Int) : (encI l).set m (.num .i64 n) = encI (l.set m n) := by simp only [encI, List.map_set]
theorem encBy_take (l : List Int) (n : Nat) : (encBy l).take n = encBy (l.take n) := by simp [encBy, List.map_take]
theorem eqP (a b : Pt) : (a.1 == b.1 && a.2 == b.2) = (a == b) := rfl
theorem take_succ_getD {l : List Pt} {i : Nat} (hi : i < l.length) : l.take (i + 1) = l.take i ++ [pAt l i] := by
  rw [List.take_succ_eq_append_getElem hi]
  simp [hi]
theorem take_succ_g {α : Type} {l : List α} {i : Nat} {d : α} (hi : i < l.length) : l.take (i + 1) = l.take i ++ [l.getD i d] := by
  rw [List.take_succ_eq_append_getElem hi]
  simp [List.getD, hi]
theorem drop_eq_g {α : Type} {l : List α} {i : Nat} {d : α} (hi : i < l.length) : l.drop i = l.getD i d :: l.drop (i + 1) := by
  rw [List.drop_eq_getElem_cons hi]
  simp [List.getD, hi]

/-! numbers in a range; points in order -/
def inR (x lo hi : Int) : Bool := decide (lo ≤ x) && decide (x ≤ hi)

def g_impl_within : List (Nat × PSpec) := []
theorem gok_impl_within : GOK Try.prog g_impl_within := gok0
def h_impl_within : List (Nat × HSpec) := []
theorem hok_impl_within : HOK Try.prog h_impl_within := hok0
theorem c_impl_within (x : Int) (lo : Int) (hi : Int)  : ICall Try.prog 55 [.num .i64 x, .num .i64 lo, .num .i64 hi] (.bool (inR x lo hi)) := by
  refine icall_V (G := g_impl_within) (H := []) [] tabOK mixed gok_impl_within hok_impl_within Try.func55 rfl Try.ntmps55 Try.results55 rfl (by kernel_rfl) fun F hN hlen => ?_
  simp only [V_seq, V_ret, V_region, W_nil, W_cons, effOp2, KN_seq, KXr_nil, QE, effOp, effPure, effPick, pureV, pickV, binV, ofC, strip, lkT, lkH, ISt.app, opI, gO, gB, allB, gval, wrapG, dstOK, setD, clean, enumT, Gives, Ideal.Fin, conv, conv0, Op.operands, reduceIte, reduceCtorEq, Nat.reduceAdd, Nat.reduceLT, Nat.reduceEqDiff, Nat.zero_add, true_and, and_true, and_self, implies_true, forall_const, List.nil_append, List.cons_append, List.append_nil, Option.bind_some, List.getElem?_cons_zero, List.getElem?_cons_succ, hN, inR]
  cases decide (lo ≤ x) <;> simp
def sp_impl_within : PSpec := ⟨fun xs => match xs with | [.num .i64 x, .num .i64 lo, .num .i64 hi] => True | _ => False, fun xs => match xs with | [.num _ x, .num _ lo, .num _ hi] => (fun (x : Int) (lo : Int) (hi : Int) => .bool (inR x lo hi)) x lo hi | _ => .junk, false⟩
theorem gk_impl_within : ∀ args, sp_impl_within.pre args → ICall Try.prog 55 args (sp_impl_within.val args) := by
  intro args h
  unfold sp_impl_within at h ⊢; simp only at h ⊢; split at h
  · exact c_impl_within _ _ _
  · exact h.elim
theorem en_impl_within : Enters Try.prog 55 := enters_of Try.func55 (by kernel_rfl) rfl

def g_spec_inRange : List (Nat × PSpec) := []
theorem gok_spec_inRange : GOK Try.prog g_spec_inRange := gok0
def h_spec_inRange : List (Nat × HSpec) := []
theorem hok_spec_inRange : HOK Try.prog h_spec_inRange := hok0
theorem c_spec_inRange (x : Int) (lo : Int) (hi : Int)  : ICall Try.prog 36 [.num .i64 x, .num .i64 lo, .num .i64 hi] (.bool (inR x lo hi)) := by
  refine icall_V (G := g_spec_inRange) (H := []) [] tabOK mixed gok_spec_inRange hok_spec_inRange Try.func36 rfl Try.ntmps36 Try.results36 rfl (by kernel_rfl) fun F hN hlen => ?_
  simp only [V_seq, V_ret, V_region, W_nil, W_cons, effOp2, KN_seq, KXr_nil, QE, effOp, effPure, effPick, pureV, pickV, binV, ofC, strip, lkT, lkH, ISt.app, opI, gO, gB, allB, gval, wrapG, dstOK, setD, clean, enumT, Gives, Ideal.Fin, conv, conv0, Op.operands, reduceIte, reduceCtorEq, Nat.reduceAdd, Nat.reduceLT, Nat.reduceEqDiff, Nat.zero_add, true_and, and_true, and_self, implies_true, forall_const, List.nil_append, List.cons_append, List.append_nil, Option.bind_some, List.getElem?_cons_zero, List.getElem?_cons_succ, hN, inR]
  cases decide (lo ≤ x) <;> simp
def sp_spec_inRange : PSpec := ⟨fun xs => match xs with | [.num .i64 x, .num .i64 lo, .num .i64 hi] => True | _ => False, fun xs => match xs with | [.num _ x, .num _ lo, .num _ hi] => (fun (x : Int) (lo : Int) (hi : Int) => .bool (inR x lo hi)) x lo hi | _ => .junk, false⟩
theorem gk_spec_inRange : ∀ args, sp_spec_inRange.pre args → ICall Try.prog 36 args (sp_spec_inRange.val args) := by
  intro args h
  unfold sp_spec_inRange at h ⊢; simp only at h ⊢; split at h
  · exact c_spec_inRange _ _ _
  · exact h.elim
theorem en_spec_inRange : Enters Try.prog 36 := enters_of Try.func36 (by kernel_rfl) rfl

def g_spec_pointLess : List (Nat × PSpec) := []
theorem gok_spec_pointLess : GOK Try.prog g_spec_pointLess := gok0
def h_spec_pointLess : List (Nat × HSpec) := []
theorem hok_spec_pointLess : HOK Try.prog h_spec_pointLess := hok0
theorem c_spec_pointLess (p : Pt) (q : Pt)  : ICall Try.prog 52 [encP p, encP q] (.bool (ltP p q)) := by
  refine icall_V (G := g_spec_pointLess) (H := []) [] tabOK mixed gok_spec_pointLess hok_spec_pointLess Try.func52 rfl Try.ntmps52 Try.results52 rfl (by kernel_rfl) fun F hN hlen => ?_
  simp only [V_seq, V_ret, V_region, W_nil, W_cons, effOp2, KN_seq, KXr_nil, QE, effOp, effPure, effPick, effNew, effBox, skipE, pureV, pickV, binV, partV, loadV, faddrV, solid, IV.cells, ofC, strip, lkT, lkH, ISt.app, opI, gO, gB, allB, gval, wrapG, dstOK, setD, mentTm, mentHp, IV.ment, IV.mentL, oneI, clean, enumT, Gives, Ideal.Fin, conv, conv0, IBlk.shape, Op.operands, reduceIte, reduceCtorEq, cond_true, Bool.or_false, Bool.and_true, Bool.and_eq_true, Nat.reduceAdd, Nat.reduceLT, Nat.reduceLeDiff, Nat.reduceEqDiff, Nat.reduceBEq, Nat.add_zero, Nat.zero_add, true_and, and_true, and_self, implies_true, forall_const, List.nil_append, List.cons_append, List.append_nil, List.all_cons, List.all_nil, Option.map_some, Option.bind_some, List.getElem?_cons_zero, List.getElem?_cons_succ, List.getD_cons_zero, List.getD_cons_succ, List.length_cons, List.length_nil, List.take_succ_cons, List.take_zero, List.take_nil, List.drop_succ_cons, List.drop_zero, tab3, tab38, hN, encP, ltP]
  cases decide (p.1 < q.1) <;> cases (p.1 == q.1) <;> simp
def sp_spec_pointLess : PSpec := ⟨fun xs => match xs with | [.agg [.num .i64 p1, .num .i64 p2], .agg [.num .i64 q1, .num .i64 q2]] => True | _ => False, fun xs => match xs with | [.agg [.num _ p1, .num _ p2], .agg [.num _ q1, .num _ q2]] => (fun (p : Pt) (q : Pt) => .bool (ltP p q)) (p1, p2) (q1, q2) | _ => .junk, false⟩
theorem gk_spec_pointLess : ∀ args, sp_spec_pointLess.pre args → ICall Try.prog 52 args (sp_spec_pointLess.val args) := by
  intro args h
  unfold sp_spec_pointLess at h ⊢; simp only at h ⊢; split at h
  · exact c_spec_pointLess (_, _) (_, _)
  · exact h.elim
theorem en_spec_pointLess : Enters Try.prog 52 := enters_of Try.func52 (by kernel_rfl) rfl


def okP (p : Pt) : Bool := inR p.1 (-1000) 1000 && inR p.2 (-1000) 1000
def g_impl_Point_valid : List (Nat × PSpec) := [(55, sp_impl_within)]
theorem gok_impl_Point_valid : GOK Try.prog g_impl_Point_valid := gok_cons gk_impl_within en_impl_within (gok0)
theorem lk_impl_Point_valid_impl_within : lkG g_impl_Point_valid 55 = sp_impl_within := rfl
def h_impl_Point_valid : List (Nat × HSpec) := []
theorem hok_impl_Point_valid : HOK Try.prog h_impl_Point_valid := hok0
theorem c_impl_Point_valid (p : Pt)  : ICall Try.prog 43 [encP p] (.bool (okP p)) := by
  refine icall_V (G := g_impl_Point_valid) (H := []) [] tabOK mixed gok_impl_Point_valid hok_impl_Point_valid Try.func43 rfl Try.ntmps43 Try.results43 rfl (by kernel_rfl) fun F hN hlen => ?_
  simp only [V_seq, V_ret, V_region, W_nil, W_cons, effOp2, KN_seq, KXr_nil, QE, effOp, effPure, effPick, effNew, effBox, effCall, giveUp, hasAll, skipE, pureV, pickV, partV, loadV, faddrV, solid, IV.cells, ofC, strip, lkT, lkH, ISt.app, opI, gO, gB, allB, gval, wrapG, dstOK, setD, mentTm, mentHp, IV.ment, IV.mentL, oneI, lendV, lendP, lent, lentP, idsV, idsL, lkHS, flat, clean, callArgs, callFn, allLent, enumT, Gives, Ideal.Fin, conv, conv0, IBlk.shape, Op.operands, reduceIte, reduceCtorEq, cond_true, Bool.or_false, Bool.true_or, Bool.and_true, Bool.not_true, Nat.reduceAdd, Nat.reduceLT, Nat.reduceLeDiff, Nat.reduceEqDiff, Nat.add_zero, Nat.zero_add, true_and, and_true, and_self, implies_true, forall_const, List.map_cons, List.map_nil, List.nil_append, List.cons_append, List.append_nil, List.all_cons, List.all_nil, Option.map_some, Option.bind_some, List.getElem?_cons_zero, List.getElem?_cons_succ, List.getD_cons_zero, List.getD_cons_succ, List.length_cons, List.length_nil, List.take_succ_cons, List.take_zero, List.take_nil, List.drop_succ_cons, List.drop_zero, ex_clo, or_self, tab3, tab38, hN, encP, lk_impl_Point_valid_impl_within, sp_impl_within, okP]
  cases inR p.1 (-1000) 1000 <;> simp
def sp_impl_Point_valid : PSpec := ⟨fun xs => match xs with | [.agg [.num .i64 p1, .num .i64 p2]] => True | _ => False, fun xs => match xs with | [.agg [.num _ p1, .num _ p2]] => (fun (p : Pt) => .bool (okP p)) (p1, p2) | _ => .junk, false⟩
theorem gk_impl_Point_valid : ∀ args, sp_impl_Point_valid.pre args → ICall Try.prog 43 args (sp_impl_Point_valid.val args) := by
  intro args h
  unfold sp_impl_Point_valid at h ⊢; simp only at h ⊢; split at h
  · exact c_impl_Point_valid (_, _)
  · exact h.elim
theorem en_impl_Point_valid : Enters Try.prog 43 := enters_of Try.func43 (by kernel_rfl) rfl

def g_spec_validPoint : List (Nat × PSpec) := [(36, sp_spec_inRange)]
theorem gok_spec_validPoint : GOK Try.prog g_spec_validPoint := gok_cons gk_spec_inRange en_spec_inRange (gok0)
theorem lk_spec_validPoint_spec_inRange : lkG g_spec_validPoint 36 = sp_spec_inRange := rfl
def h_spec_validPoint : List (Nat × HSpec) := []
theorem hok_spec_validPoint : HOK Try.prog h_spec_validPoint := hok0
theorem c_spec_validPoint (p : Pt)  : ICall Try.prog 24 [encP p] (.bool (okP p)) := by
  refine icall_V (G := g_spec_validPoint) (H := []) [] tabOK mixed gok_spec_validPoint hok_spec_validPoint Try.func24 rfl Try.ntmps24 Try.results24 rfl (by kernel_rfl) fun F hN hlen => ?_
  simp only [V_seq, V_ret, V_region, W_nil, W_cons, effOp2, KN_seq, KXr_nil, QE, effOp, effPure, effPick, effNew, effBox, effCall, giveUp, hasAll, skipE, pureV, pickV, partV, loadV, faddrV, solid, IV.cells, ofC, strip, lkT, lkH, ISt.app, opI, gO, gB, allB, gval, wrapG, dstOK, setD, mentTm, mentHp, IV.ment, IV.mentL, oneI, lendV, lendP, lent, lentP, idsV, idsL, lkHS, flat, clean, callArgs, callFn, allLent, enumT, Gives, Ideal.Fin, conv, conv0, IBlk.shape, Op.operands, reduceIte, reduceCtorEq, cond_true, Bool.or_false, Bool.true_or, Bool.and_true, Bool.not_true, Nat.reduceAdd, Nat.reduceLT, Nat.reduceLeDiff, Nat.reduceEqDiff, Nat.add_zero, Nat.zero_add, true_and, and_true, and_self, implies_true, forall_const, List.map_cons, List.map_nil, List.nil_append, List.cons_append, List.append_nil, List.all_cons, List.all_nil, Option.map_some, Option.bind_some, List.getElem?_cons_zero, List.getElem?_cons_succ, List.getD_cons_zero, List.getD_cons_succ, List.length_cons, List.length_nil, List.take_succ_cons, List.take_zero, List.take_nil, List.drop_succ_cons, List.drop_zero, ex_clo, or_self, tab3, tab38, hN, encP, lk_spec_validPoint_spec_inRange, sp_spec_inRange, okP]
  cases inR p.1 (-1000) 1000 <;> simp
def sp_spec_validPoint : PSpec := ⟨fun xs => match xs with | [.agg [.num .i64 p1, .num .i64 p2]] => True | _ => False, fun xs => match xs with | [.agg [.num _ p1, .num _ p2]] => (fun (p : Pt) => .bool (okP p)) (p1, p2) | _ => .junk, false⟩
theorem gk_spec_validPoint : ∀ args, sp_spec_validPoint.pre args → ICall Try.prog 24 args (sp_spec_validPoint.val args) := by
  intro args h
  unfold sp_spec_validPoint at h ⊢; simp only at h ⊢; split at h
  · exact c_spec_validPoint (_, _)
  · exact h.elim
theorem en_spec_validPoint : Enters Try.prog 24 := enters_of Try.func24 (by kernel_rfl) rfl


end Go.Proofs.Ytiadicmnbjaknaa
