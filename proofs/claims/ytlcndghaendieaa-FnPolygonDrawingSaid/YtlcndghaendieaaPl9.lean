/- Rings that begin with their first vertex in order. -/
import Derived.Test.YtlcndghaendieaaPl8
set_option linter.unusedVariables false
namespace Go.Pl

/-- The first point in order. -/
def minP (l : List Pt) : Pt := (insP l).headD (0, 0)
theorem minP_mem {l : List Pt} (h : 0 < l.length) : minP l ∈ l := by
  have hne : insP l ≠ [] := by
    intro e
    match l, h with
    | x :: r, _ =>
      have : x ∈ insP (x :: r) := mem_insP.2 (by simp)
      rw [e] at this; cases this
  match hi : insP l, hne with
  | x :: r, _ =>
    have : x ∈ insP l := by rw [hi]; simp
    rw [minP, hi]
    exact mem_insP.1 this
theorem minP_le {l : List Pt} {x : Pt} (hx : x ∈ l) : ltP x (minP l) = false := by
  have hm : x ∈ insP l := mem_insP.2 hx
  have ha := asc_insP l
  match hi : insP l with
  | [] => rw [hi] at hm; cases hm
  | y :: r =>
    rw [minP, hi]
    rw [hi] at hm ha
    rcases List.mem_cons.1 hm with rfl | h
    · exact ltP_irrefl _
    · exact ltP_asymm ((List.pairwise_cons.1 ha).1 x h)
theorem min_unique {l : List Pt} {x : Pt} (hx : x ∈ l) (h : ∀ y ∈ l, ltP y x = false) : x = minP l := by
  have h0 : 0 < l.length := by
    rcases Nat.eq_zero_or_pos l.length with h | h
    · rw [List.length_eq_zero_iff.1 h] at hx; cases hx
    · exact h
  exact ltP_total (minP_le hx) (h _ (minP_mem h0))

/-- The i-th vertex of the ring, the other way round if asked. -/
def ordF (n : Nat) (neg : Bool) (i : Nat) : Nat := if neg then (n - i) % n else i
theorem ordF_lt {n i : Nat} {neg : Bool} (hi : i < n) : ordF n neg i < n := by
  unfold ordF; split
  · exact Nat.mod_lt _ (by omega)
  · exact hi
/-- So many steps of the search for the first point in order. -/
def kF (S : List Pt) : Nat → Nat
  | 0 => 0
  | i + 1 => if ltP (pA S i) (pA S (kF S i)) then i else kF S i
theorem kF_lt (S : List Pt) : ∀ i, 0 < S.length → i ≤ S.length → kF S i < S.length
  | 0, h, _ => h
  | i + 1, h, hi => by
    rw [kF]; split
    · omega
    · exact kF_lt S i h (by omega)
theorem kF_min (S : List Pt) : ∀ i j, j < i → ltP (pA S j) (pA S (kF S i)) = false
  | i + 1, j, hj => by
    rw [kF]
    split
    · rename_i h
      rcases Nat.lt_or_ge j i with c | c
      · cases hc : ltP (pA S j) (pA S i) with
        | false => rfl
        | true =>
          have := ltP_trans hc h
          rw [kF_min S i j c] at this; cases this
      · rw [show j = i by omega]; exact ltP_irrefl _
    · rename_i h
      rcases Nat.lt_or_ge j i with c | c
      · exact kF_min S i j c
      · rw [show j = i by omega]; simpa using h
theorem kF_at {S : List Pt} (h : 0 < S.length) : pA S (kF S S.length) = minP S := by
  refine min_unique (pA_mem (kF_lt S _ h (Nat.le_refl _))) ?_
  intro y hy
  obtain ⟨j, hj, rfl⟩ := mem_pA hy
  exact kF_min S _ _ hj
theorem minP_rev (l : List Pt) : minP l.reverse = minP l := by
  rw [minP, minP, insP_congr (m := l) (fun x => by simp)]

/-- The canonical ring: turned round if asked, from the first vertex in order on. -/
def turnedP (l : List Pt) (neg : Bool) : List Pt := if neg then l.reverse else l
def canR (l : List Pt) (neg : Bool) : List Pt := (turnedP l neg).drop (kF (turnedP l neg) (turnedP l neg).length) ++ (turnedP l neg).take (kF (turnedP l neg) (turnedP l neg).length)
theorem turned_len (l : List Pt) (neg : Bool) : (turnedP l neg).length = l.length := by unfold turnedP; split <;> simp
theorem turned_at {l : List Pt} {neg : Bool} {j : Nat} (hj : j < l.length) : pA (turnedP l neg) j = pA l (if neg then l.length - 1 - j else j) := by
  unfold turnedP
  cases neg with
  | false => rfl
  | true =>
    simp only [if_true]
    rw [pA, pA, List.getD, List.getD, List.getElem?_reverse hj]
theorem canR_len (l : List Pt) (neg : Bool) : (canR l neg).length = l.length := by
  unfold canR
  rw [List.length_append, List.length_drop, List.length_take, turned_len]; omega
theorem drop_take_at {S : List Pt} {k j : Nat} (hk : k < S.length) (hj : j < S.length) : pA (S.drop k ++ S.take k) j = pA S ((k + j) % S.length) := by
  rw [pA, pA, List.getD, List.getD]
  rcases Nat.lt_or_ge j (S.length - k) with c | c
  · rw [List.getElem?_append_left (by rw [List.length_drop]; exact c), List.getElem?_drop, Nat.mod_eq_of_lt (by omega)]
  · rw [List.getElem?_append_right (by rw [List.length_drop]; exact c), List.length_drop, List.getElem?_take_of_lt (by omega)]
    have : (k + j) % S.length = j - (S.length - k) := by
      rw [show k + j = (j - (S.length - k)) + S.length by omega, Nat.add_mod_right, Nat.mod_eq_of_lt (by omega)]
    rw [this]
theorem mod_succ {t n : Nat} (h : t < n) : (t + 1) % n = if t + 1 = n then 0 else t + 1 := by
  split
  · rename_i e; rw [e, Nat.mod_self]
  · exact Nat.mod_eq_of_lt (by omega)
theorem ord_rev {t n : Nat} (h : t < n) : ordF n true ((t + 1) % n) = n - 1 - t := by
  rw [ordF, if_pos rfl, mod_succ h]
  split
  · rw [Nat.sub_zero, Nat.mod_self]; omega
  · rw [Nat.mod_eq_of_lt (by omega)]; omega
theorem ord_inj {n i j : Nat} {neg : Bool} (hi : i < n) (hj : j < n) (h : ordF n neg i = ordF n neg j) : i = j := by
  cases neg with
  | false => exact h
  | true =>
    simp only [ordF, if_true] at h
    rcases Nat.eq_zero_or_pos i with a | a <;> rcases Nat.eq_zero_or_pos j with b | b
    · omega
    · subst a; rw [Nat.sub_zero, Nat.mod_self, Nat.mod_eq_of_lt (by omega)] at h; omega
    · subst b; rw [Nat.sub_zero, Nat.mod_self, Nat.mod_eq_of_lt (by omega)] at h; omega
    · rw [Nat.mod_eq_of_lt (by omega), Nat.mod_eq_of_lt (by omega)] at h; omega
theorem can_at {l : List Pt} {neg : Bool} (hnd : l.Nodup) {f : Nat} (hf : f < l.length) (hm : pA l (ordF l.length neg f) = minP l) {j : Nat} (hj : j < l.length) :
    pA (canR l neg) j = pA l (ordF l.length neg ((f + j) % l.length)) := by
  have hn : 0 < l.length := by omega
  obtain ⟨S, hS⟩ : ∃ S, turnedP l neg = S := ⟨_, rfl⟩
  have hl : S.length = l.length := by rw [← hS, turned_len]
  have hk := kF_lt S S.length (by omega) (Nat.le_refl _)
  have hkm := kF_at (S := S) (by omega)
  have hat : ∀ j, j < l.length → pA S j = pA l (if neg then l.length - 1 - j else j) := fun j h => by rw [← hS]; exact turned_at h
  have hmin : minP S = minP l := by
    rw [← hS]; unfold turnedP; split
    · exact minP_rev l
    · rfl
  unfold canR
  rw [hS, drop_take_at hk (by omega)]
  obtain ⟨k, hk0⟩ : ∃ k, kF S S.length = k := ⟨_, rfl⟩
  rw [hk0] at hk hkm ⊢
  rw [hat k (by omega), hmin] at hkm
  rw [hl]
  have ht : (k + j) % l.length < l.length := Nat.mod_lt _ hn
  rw [hat _ ht]
  cases neg with
  | false =>
    have : k = f := by
      refine pA_inj hnd (by omega) hf ?_
      rw [show (if false = true then l.length - 1 - k else k) = k from rfl] at hkm
      rw [hkm, ← hm]; rfl
    subst this; rfl
  | true =>
    simp only [if_true] at hkm ⊢
    have e : l.length - 1 - k = ordF l.length true f := by
      refine pA_inj hnd (by omega) (ordF_lt hf) ?_
      rw [hkm, hm]
    have hf2 : f = (k + 1) % l.length := by
      refine ord_inj (neg := true) hf (Nat.mod_lt _ hn) ?_
      rw [← e, ord_rev (by omega)]
    rw [← ord_rev ht]
    congr 2
    rw [hf2]
    rw [Nat.mod_add_mod, Nat.mod_add_mod]
    congr 1; omega
/-- The ring as it is gathered from an order of the vertices. -/
theorem can_eq {l : List Pt} {neg : Bool} (hnd : l.Nodup) {f : Nat} (hf : f < l.length) (hm : pA l (ordF l.length neg f) = minP l) :
    canR l neg = (List.range l.length).map fun j => pA l (ordF l.length neg ((f + j) % l.length)) := by
  refine List.ext_getElem (by rw [canR_len]; simp) ?_
  intro j h1 h2
  rw [canR_len] at h1
  have := can_at hnd hf hm h1
  rw [pA, List.getD, List.getElem?_eq_getElem (by rw [canR_len]; exact h1)] at this
  simpa using this
/-- The first vertex in order stands somewhere. -/
theorem ord_min {l : List Pt} (neg : Bool) (h : 0 < l.length) : ∃ f, f < l.length ∧ pA l (ordF l.length neg f) = minP l := by
  obtain ⟨i, hi, he⟩ := mem_pA (minP_mem h)
  cases neg with
  | false => exact ⟨i, hi, he⟩
  | true =>
    refine ⟨(l.length - 1 - i + 1) % l.length, Nat.mod_lt _ h, ?_⟩
    rw [ord_rev (by omega), show l.length - 1 - (l.length - 1 - i) = i by omega]
    exact he
end Go.Pl
