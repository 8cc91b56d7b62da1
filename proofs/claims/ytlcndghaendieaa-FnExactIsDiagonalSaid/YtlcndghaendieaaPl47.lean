/- Diagonals of a simple polygon: two ways to ask. -/
import Derived.Test.YtlcndghaendieaaPl46
set_option linter.unusedVariables false
set_option linter.unusedSimpArgs false
set_option linter.unusedSectionVars false
set_option maxHeartbeats 4000000
namespace Go.Pl

/-- Does an edge begin or end at an end of a segment? -/
def ownE (s e : Sg) : Bool := (e.1 == s.1 || e.1 == s.2) || (e.2 == s.1 || e.2 == s.2)
/-- The tests of the program and of the reference at an edge. -/
def okIm (l : List Pt) (i k m : Nat) : Bool := if ownE (pA l i, pA l k) (edP l m) then (comP (pA l i, pA l k) (edP l m)).length == 1 else relP (pA l i, pA l k) (edP l m) == 0
def incB (n i k m : Nat) : Bool := (decide (m = i) || decide (m = k)) || (decide ((m + 1) % n = i) || decide ((m + 1) % n = k))
def okSp (l : List Pt) (i k m : Nat) : Bool :=
  if incB l.length i k m then !(((!decide (m = i) && !decide (m = k)) && onS (pA l i, pA l k) (pA l m)) || ((!decide ((m + 1) % l.length = i) && !decide ((m + 1) % l.length = k)) && onS (pA l i, pA l k) (pA l ((m + 1) % l.length))))
  else relP (pA l i, pA l k) (edP l m) == 0
section
variable {l : List Pt} (hn : l.Nodup) (h3 : 3 ≤ l.length) (hp : pairsP l = true) {i k : Nat} (hi : i < l.length) (hk : k < l.length) (hik : k ≠ i) (hk1 : k ≠ (i + 1) % l.length) (hk2 : (k + 1) % l.length ≠ i)
include hn h3 hp hi hk hik hk1 hk2
omit h3 hp hk1 hk2 in
theorem pA_beq {a b : Nat} (ha : a < l.length) (hb : b < l.length) : (pA l a == pA l b) = decide (a = b) := by
  rw [Bool.eq_iff_iff, beq_iff_eq, decide_eq_true_eq]
  exact ⟨pA_inj hn ha hb, fun e => by rw [e]⟩
theorem own_inc {m : Nat} (hm : m < l.length) : ownE (pA l i, pA l k) (edP l m) = incB l.length i k m := by
  have hm1 := Nat.mod_lt (m + 1) (show 0 < l.length by omega)
  unfold ownE incB edP
  simp only [pA_beq hn hi hk hik hm hi, pA_beq hn hi hk hik hm hk, pA_beq hn hi hk hik hm1 hi, pA_beq hn hi hk hik hm1 hk]
theorem off_edge {j m : Nat} (hj : j < l.length) (hm : m < l.length) (h1 : j ≠ m) (h2 : j ≠ (m + 1) % l.length) : onS (edP l m) (pA l j) = false := by
  cases h : onS (edP l m) (pA l j) with
  | false => rfl
  | true =>
    exfalso
    have hP := ply_of hn h3 hp
    have ho := On_of_onS (a := vl l m) (b := vl l (m + 1)) (z := pA l j) (by rw [← ed_vl hm]; exact h)
    rw [← vl_lt hj] at ho
    refine hP.off hm hj (fun e => ?_) (fun e => ?_) ho
    · rw [vl_lt hj, vl_lt hm] at e
      exact h1 (pA_inj hn hj hm e)
    · rw [vl_lt hj, vl] at e
      exact h2 (pA_inj hn hj (Nat.mod_lt _ (by omega)) e)
theorem ok_diag {m : Nat} (hm : m < l.length) : okIm l i k m = okSp l i k m := by
  have hm1 := Nat.mod_lt (m + 1) (show 0 < l.length by omega)
  have hmm : (m + 1) % l.length ≠ m := mod_ne (by omega) hm
  unfold okIm okSp
  rw [own_inc hn h3 hp hi hk hik hk1 hk2 hm]
  cases hc : incB l.length i k m with
  | false => rfl
  | true =>
    simp only [if_true]
    have beq : ∀ {a b : Nat}, a < l.length → b < l.length → (pA l a == pA l b) = decide (a = b) := fun ha hb => pA_beq hn hi hk hik ha hb
    have offe : ∀ {j : Nat}, j < l.length → j ≠ m → j ≠ (m + 1) % l.length → onS (edP l m) (pA l j) = false := fun hj h1 h2 => off_edge hn h3 hp hi hk hik hk1 hk2 hj hm h1 h2
    have on1 : onS (edP l m) (pA l m) = true := onS_1 (edP l m)
    have on2 : onS (edP l m) (pA l ((m + 1) % l.length)) = true := onS_2 (edP l m)
    have hcom : comP (pA l i, pA l k) (edP l m) = ([pA l i, pA l k].filter fun p => onS (edP l m) p) ++ ([pA l m, pA l ((m + 1) % l.length)].filter fun p => onS (pA l i, pA l k) p && !(p == pA l i || p == pA l k)) := rfl
    rw [hcom]
    simp only [incB, Bool.or_eq_true, decide_eq_true_eq] at hc
    by_cases c1 : m = i
    · have n1 : ¬ (m + 1) % l.length = k := fun e => hk1 (by rw [← e, c1])
      have n2 : ¬ (m + 1) % l.length = i := fun e => hmm (by rw [e, c1])
      have n3 : ¬ m = k := fun e => hik (by rw [← e, c1])
      have o2 := offe hk (fun e => n3 e.symm) (fun e => n1 e.symm)
      rw [show pA l m = pA l i by rw [c1]] at on1
      have b1 : (pA l m == pA l i) = true := by rw [c1]; simp
      have b2 : (pA l ((m + 1) % l.length) == pA l i) = false := by rw [beq hm1 hi]; exact decide_eq_false n2
      have b3 : (pA l ((m + 1) % l.length) == pA l k) = false := by rw [beq hm1 hk]; exact decide_eq_false n1
      simp only [List.filter, on1, o2, b1, b2, b3, decide_eq_true c1, decide_eq_false n1, decide_eq_false n2, decide_eq_false n3, Bool.true_or, Bool.not_true, Bool.and_false, Bool.or_false, Bool.not_false, Bool.and_true, Bool.false_and, Bool.false_or, Bool.true_and]
      cases onS (pA l i, pA l k) (pA l ((m + 1) % l.length)) <;> rfl
    · by_cases c2 : m = k
      · have n1 : ¬ (m + 1) % l.length = i := fun e => hk2 (by rw [← e, c2])
        have n2 : ¬ (m + 1) % l.length = k := fun e => hmm (by rw [e, c2])
        have o2 := offe hi (fun e => c1 e.symm) (fun e => n1 e.symm)
        rw [show pA l m = pA l k by rw [c2]] at on1
        have b1 : (pA l m == pA l k) = true := by rw [c2]; simp
        have b2 : (pA l ((m + 1) % l.length) == pA l i) = false := by rw [beq hm1 hi]; exact decide_eq_false n1
        have b3 : (pA l ((m + 1) % l.length) == pA l k) = false := by rw [beq hm1 hk]; exact decide_eq_false n2
        simp only [List.filter, on1, o2, b1, b2, b3, decide_eq_true c2, decide_eq_false n1, decide_eq_false n2, decide_eq_false c1, Bool.true_or, Bool.or_true, Bool.not_true, Bool.and_false, Bool.or_false, Bool.not_false, Bool.and_true, Bool.false_and, Bool.false_or, Bool.true_and]
        cases onS (pA l i, pA l k) (pA l ((m + 1) % l.length)) <;> rfl
      · have b1 : (pA l m == pA l i) = false := by rw [beq hm hi]; exact decide_eq_false c1
        have b2 : (pA l m == pA l k) = false := by rw [beq hm hk]; exact decide_eq_false c2
        by_cases c3 : (m + 1) % l.length = i
        · have n1 : ¬ (m + 1) % l.length = k := fun e => hik (by rw [← e, c3])
          have o2 := offe hk (fun e => c2 e.symm) (fun e => n1 e.symm)
          rw [show pA l ((m + 1) % l.length) = pA l i by rw [c3]] at on2
          have b3 : (pA l ((m + 1) % l.length) == pA l i) = true := by rw [c3]; simp
          simp only [List.filter, on2, o2, b1, b2, b3, decide_eq_true c3, decide_eq_false n1, decide_eq_false c1, decide_eq_false c2, Bool.true_or, Bool.or_true, Bool.not_true, Bool.and_false, Bool.or_false, Bool.not_false, Bool.and_true, Bool.false_and, Bool.false_or, Bool.true_and]
          cases onS (pA l i, pA l k) (pA l m) <;> rfl
        · have c4 : (m + 1) % l.length = k := by
            rcases hc with (h | h) | (h | h)
            · exact (c1 h).elim
            · exact (c2 h).elim
            · exact (c3 h).elim
            · exact h
          have o2 := offe hi (fun e => c1 e.symm) (fun e => c3 e.symm)
          rw [show pA l ((m + 1) % l.length) = pA l k by rw [c4]] at on2
          have b3 : (pA l ((m + 1) % l.length) == pA l k) = true := by rw [c4]; simp
          simp only [List.filter, on2, o2, b1, b2, b3, decide_eq_true c4, decide_eq_false c3, decide_eq_false c1, decide_eq_false c2, Bool.true_or, Bool.or_true, Bool.not_true, Bool.and_false, Bool.or_false, Bool.not_false, Bool.and_true, Bool.false_and, Bool.false_or, Bool.true_and]
          cases onS (pA l i, pA l k) (pA l m) <;> rfl
theorem ok_nm {m : Nat} (hm : m < l.length) (h : okSp l i k m = true) : NM (vl l i) (vl l k) (vl l m) (vl l (m + 1)) := by
  have hm1 := Nat.mod_lt (m + 1) (show 0 < l.length by omega)
  have hP := ply_of hn h3 hp
  have e1 : vl l i = pA l i := vl_lt hi
  have e2 : vl l k = pA l k := vl_lt hk
  have e3 : vl l m = pA l m := vl_lt hm
  have e4 : vl l (m + 1) = pA l ((m + 1) % l.length) := rfl
  unfold okSp at h
  cases hc : incB l.length i k m with
  | false =>
    rw [hc] at h
    rw [if_neg (by simp)] at h
    rw [e1, e2, e3, e4]
    exact nm_apart (beq_iff_eq.1 h)
  | true =>
    rw [hc, if_pos rfl] at h
    simp only [Bool.not_eq_true', Bool.or_eq_false_iff, Bool.and_eq_false_iff, Bool.not_eq_false', decide_eq_true_eq] at h
    obtain ⟨h1, h2⟩ := h
    have noOn : ∀ {z}, onS (pA l i, pA l k) z = false → ¬ On (pA l i) (pA l k) z := fun hf ho => by rw [onS_of_On ho] at hf; cases hf
    refine ⟨?_, fun x y => ?_, fun x y => ?_, fun x y => hP.off hm hi x y, fun x y => hP.off hm hk x y⟩
    · have t1 := turn_same1 (vl l i) (vl l k)
      have t2 := turn_same2 (vl l i) (vl l k)
      rintro ⟨x, y⟩
      simp only [incB, Bool.or_eq_true, decide_eq_true_eq] at hc
      rcases hc with (hc | hc) | (hc | hc)
      · subst hc; omega
      · subst hc; omega
      · have : vl l (m + 1) = vl l i := by rw [e4, e1, hc]
        rw [this] at x; omega
      · have : vl l (m + 1) = vl l k := by rw [e4, e2, hc]
        rw [this] at x; omega
    · rw [e1, e2, e3] at *
      refine noOn ?_
      rcases h1 with h1 | h1
      · rcases h1 with h1 | h1
        · exact (x (by rw [h1])).elim
        · exact (y (by rw [h1])).elim
      · exact h1
    · rw [e1, e2, e4] at *
      refine noOn ?_
      rcases h2 with h2 | h2
      · rcases h2 with h2 | h2
        · exact (x (by rw [h2])).elim
        · exact (y (by rw [h2])).elim
      · exact h2
/-- Both ways to ask whether a segment is a diagonal. -/
theorem diag_same : ((List.range l.length).all fun m => okSp l i k m) = true → locR ((pA l i).1 + (pA l k).1, (pA l i).2 + (pA l k).2) (edgs (dblP l)) false =
      if (if sumN l l.length < 0 then coneP (pA l ((i + 1) % l.length)) (pA l i) (pA l ((i + l.length - 1) % l.length)) (pA l k) else coneP (pA l ((i + l.length - 1) % l.length)) (pA l i) (pA l ((i + 1) % l.length)) (pA l k)) = true then 1 else -1 := by
  intro h
  rw [List.all_eq_true] at h
  have := loc_diag hn h3 hp hi hk hik hk1 (fun e => by
    apply hk2
    rw [e, Nat.mod_add_mod, show i + l.length - 1 + 1 = i + l.length by omega, Nat.add_mod_right, Nat.mod_eq_of_lt hi]) (fun m hm => ok_nm hn h3 hp hi hk hik hk1 hk2 hm (h m (List.mem_range.2 hm)))
  rw [vl_lt hi, vl_lt hk] at this
  exact this
end
end Go.Pl
