/- Contracts: lists of points: valid, equal, in order. -/
import Derived.Test.YtggigfogckeamaaDoorB1
set_option linter.unusedVariables false
set_option linter.unusedSimpArgs false
namespace Go.Proofs.YtggigfogckeamaaDoor
open Go Go.Ideal Go.Pl

def okPs (l : List Pt) : Bool := l.all okP && decide (l.length ≤ 20)
theorem all_step {α : Type} {p : α → Bool} {d : α} {l : List α} {i : Nat} (hi : i < l.length) : (l.drop i).all p = (p (l.getD i d) && (l.drop (i + 1)).all p) := by
  rw [List.drop_eq_getElem_cons hi, List.all_cons]
  simp [List.getD, hi]
theorem any_step {α : Type} {p : α → Bool} {d : α} {l : List α} {i : Nat} (hi : i < l.length) : (l.drop i).any p = (p (l.getD i d) || (l.drop (i + 1)).any p) := by
  rw [List.drop_eq_getElem_cons hi, List.any_cons]
  simp [List.getD, hi]
/-- The first place at which p holds, or -1. -/
def idxF {α : Type} (p : α → Bool) : List α → Nat → Int
  | [], _ => -1
  | x :: l, i => if p x then i else idxF p l (i + 1)
theorem idxF_step {α : Type} {p : α → Bool} {d : α} {l : List α} {i : Nat} (hi : i < l.length) : idxF p (l.drop i) i = if p (l.getD i d) then (i : Int) else idxF p (l.drop (i + 1)) (i + 1) := by
  rw [List.drop_eq_getElem_cons hi, idxF]
  simp [List.getD, hi]
theorem idxF_sign {α : Type} {p : α → Bool} : ∀ {l : List α} {i : Nat}, decide (0 ≤ idxF p l i) = l.any p
  | [], i => by simp [idxF]
  | x :: l, i => by
    simp only [idxF, List.any_cons]
    by_cases h : p x = true
    · simp [h]
    · simp only [Bool.not_eq_true] at h
      simpa [h] using idxF_sign (l := l) (i := i + 1)





theorem addP_past {p : Pt} {l : List Pt} {k : Nat} (hk : k < l.length) (h : addP l p = l.take k ++ addP (l.drop k) p) (hl : ltP (pAt l k) p = true) : addP l p = l.take (k + 1) ++ addP (l.drop (k + 1)) p := by
  rw [h, drop_eq_g (d := (0, 0)) hk]
  simp only [addP, hl, if_true]
  rw [take_succ_g (d := (0, 0)) hk, List.append_assoc]
  rfl
theorem addP_stop {p : Pt} {l : List Pt} {k : Nat} (hk : k < l.length) (h : addP l p = l.take k ++ addP (l.drop k) p) (hl : ltP (pAt l k) p = false) :
    addP l p = if pAt l k == p then l else l.take k ++ p :: l.drop k := by
  rw [h, drop_eq_g (d := (0, 0)) hk]
  simp only [addP, hl, Bool.false_eq_true, if_false]
  by_cases hq : (pAt l k == p) = true
  · rw [if_pos hq, if_pos hq, ← drop_eq_g (d := (0, 0)) hk, List.take_append_drop]
  · rw [if_neg hq, if_neg hq]


theorem ins_step {l : List Pt} {i : Nat} (hi : i < l.length) : insP (l.take (i + 1)) = addP (insP (l.take i)) (pAt l i) := by
  rw [insP, insP, take_succ_g (d := (0, 0)) hi, List.foldl_append]
  rfl

/-- What SortPoints gives. -/
def sortP (l : List Pt) : List Pt := if okPs l then insP l else []
theorem okPs_len {l : List Pt} (h : okPs l = true) : l.length ≤ 20 := by
  simp only [okPs, Bool.and_eq_true, decide_eq_true_eq] at h
  exact h.2

theorem orI_step {l : List Int} {i : Nat} (hi : i < l.length) : orI (l.drop i) = if l.getD i 0 = 0 then orI (l.drop (i + 1)) else l.getD i 0 := by
  rw [drop_eq_g (d := 0) hi]
  simp [orI]

end Go.Proofs.YtggigfogckeamaaDoor
