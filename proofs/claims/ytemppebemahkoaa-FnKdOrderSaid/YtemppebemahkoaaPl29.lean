/- k-d trees: the order of the nodes. -/
import Derived.Test.YtemppebemahkoaaPl13
import Derived.Test.YtemppebemahkoaaPl7

namespace Go.Pl

/-- Two sorted lists with the same elements, as often. -/
theorem sorted_unique {α : Type} {lt : α → α → Bool} (T : Tot lt) : ∀ {a b : List α}, a.Pairwise (fun x y => lt y x = false) → b.Pairwise (fun x y => lt y x = false) → a.Perm b → a = b
  | [], b, _, _, h => h.nil_eq
  | x :: a, [], _, _, h => absurd h.length_eq (by simp)
  | x :: a, y :: b, ha, hb, h => by
    rw [List.pairwise_cons] at ha hb
    have hxy : x = y := by
      rcases List.mem_cons.1 (h.mem_iff.1 (show x ∈ x :: a by simp)) with e | e
      · exact e
      · rcases List.mem_cons.1 (h.mem_iff.2 (show y ∈ y :: b by simp)) with e2 | e2
        · exact e2.symm
        · exact T.total _ _ (hb.1 x e) (ha.1 y e2)
    subst hxy
    exact congrArg _ (sorted_unique T ha.2 hb.2 (List.perm_cons x |>.1 h))
theorem Tot.le_trans {α : Type} {lt : α → α → Bool} (T : Tot lt) {a b c : α} (h1 : lt b a = false) (h2 : lt c b = false) : lt c a = false := by
  cases hc : lt c a with
  | false => rfl
  | true =>
    cases hab : lt a b with
    | true => have := T.trans _ _ _ hc hab; rw [this] at h2; cases h2
    | false => have := T.total _ _ hab h1; subst this; rw [hc] at h2; cases h2
theorem sort_sorted {α : Type} [DecidableEq α] {lt : α → α → Bool} (T : Tot lt) (l : List α) : (l.mergeSort fun x y => !lt y x).Pairwise (fun a b => lt b a = false) := by
  have := List.pairwise_mergeSort (le := fun x y => !lt y x) (fun a b c h1 h2 => by
      simp only [Bool.not_eq_true'] at *
      exact T.le_trans h1 h2)
    (fun a b => by
      cases h1 : lt b a with
      | false => rfl
      | true => simp [T.asymm h1]) l
  exact this.imp fun h => by simpa using h

/-! sorting by insertion from behind -/
section
variable {α : Type} (lt : α → α → Bool) (d : α)
/-- The place of x among the first k. -/
def posB (L : List α) (x : α) : Nat → Nat
  | 0 => 0
  | k + 1 => if lt x (L.getD k d) then posB L x k else k + 1
theorem posB_le (L : List α) (x : α) : ∀ k, posB lt d L x k ≤ k
  | 0 => Nat.le_refl 0
  | k + 1 => by have := posB_le L x k; rw [posB]; split <;> omega
def putB (L : List α) (x : α) : List α := L.take (posB lt d L x L.length) ++ x :: L.drop (posB lt d L x L.length)
def ordB (idx : List α) : Nat → List α
  | 0 => []
  | i + 1 => putB lt d (ordB idx i) (idx.getD i d)
variable {lt} {d}
theorem posB_after {L : List α} {x : α} : ∀ k j, posB lt d L x k ≤ j → j < k → lt x (L.getD j d) = true
  | 0, j, _, h => absurd h (Nat.not_lt_zero j)
  | k + 1, j, h, hj => by
    rw [posB] at h
    split at h
    · rename_i hc
      rcases Nat.lt_or_ge j k with q | q
      · exact posB_after k j h q
      · have : j = k := by omega
        subst this; exact hc
    · omega
theorem posB_last {L : List α} {x : α} : ∀ k, 0 < posB lt d L x k → lt x (L.getD (posB lt d L x k - 1) d) = false
  | 0, h => by simp [posB] at h
  | k + 1, h => by
    rw [posB] at h ⊢
    split
    · rename_i hc
      rw [if_pos hc] at h
      exact posB_last k h
    · rename_i hc
      simpa using hc
theorem put_perm (L : List α) (x : α) : (putB lt d L x).Perm (L ++ [x]) := by
  unfold putB
  refine List.perm_middle.trans ?_
  rw [List.take_append_drop]
  exact (List.perm_append_comm (l₁ := [x]) (l₂ := L))
theorem put_sorted [DecidableEq α] (T : Tot lt) {L : List α} {x : α} (h : L.Pairwise (fun a b => lt b a = false)) : (putB lt d L x).Pairwise (fun a b => lt b a = false) := by
  have hle := posB_le lt d L x L.length
  have hget : ∀ {i j : Nat}, i < j → j < L.length → lt (L.getD j d) (L.getD i d) = false := by
    intro i j hij hj
    have := List.pairwise_iff_getElem.1 h i j (by omega) hj hij
    simpa [List.getD, show i < L.length by omega, hj] using this
  unfold putB
  rw [List.pairwise_append, List.pairwise_cons]
  have htake : ∀ a ∈ L.take (posB lt d L x L.length), lt x a = false := by
    intro a ha
    obtain ⟨i, hi, rfl⟩ := List.mem_take_iff_getElem.1 ha
    have hi1 : i < posB lt d L x L.length := by omega
    have hi2 : i < L.length := by omega
    have e : L[i] = L.getD i d := by simp [List.getD, hi2]
    have hl := posB_last (lt := lt) (d := d) (L := L) (x := x) L.length (by omega)
    rw [e]
    rcases Nat.lt_or_ge i (posB lt d L x L.length - 1) with q | q
    · exact T.le_trans (hget q (by omega)) hl
    · have : i = posB lt d L x L.length - 1 := by omega
      rw [this]; exact hl
  have hdrop : ∀ a ∈ L.drop (posB lt d L x L.length), lt x a = true := by
    intro a ha
    obtain ⟨i, hi, rfl⟩ := List.mem_drop_iff_getElem.1 ha
    have e : L[posB lt d L x L.length + i] = L.getD (posB lt d L x L.length + i) d := by simp [List.getD, show posB lt d L x L.length + i < L.length by omega]
    rw [e]
    exact posB_after L.length _ (by omega) (by omega)
  refine ⟨h.sublist (List.take_sublist _ _), ⟨fun a ha => T.asymm (hdrop a ha), h.sublist (List.drop_sublist _ _)⟩, fun a ha b hb => ?_⟩
  rcases List.mem_cons.1 hb with rfl | hb
  · exact htake a ha
  · have h1 := htake a ha
    have h2 := T.asymm (hdrop b hb)
    exact T.le_trans h1 h2
theorem ord_perm (idx : List α) : ∀ i, i ≤ idx.length → (ordB lt d idx i).Perm (idx.take i)
  | 0, _ => by simp [ordB]
  | i + 1, hi => by
    rw [ordB]
    refine (put_perm _ _).trans ?_
    have e : idx.take (i + 1) = idx.take i ++ [idx.getD i d] := by
      rw [List.take_add_one]; simp [List.getD, show i < idx.length by omega]
    rw [e]
    exact (ord_perm idx i (by omega)).append_right _
theorem ord_sorted [DecidableEq α] (T : Tot lt) (idx : List α) : ∀ i, (ordB lt d idx i).Pairwise (fun a b => lt b a = false)
  | 0 => List.Pairwise.nil
  | i + 1 => put_sorted T (ord_sorted T idx i)
theorem ord_sort [DecidableEq α] (T : Tot lt) (idx : List α) : ordB lt d idx idx.length = idx.mergeSort fun x y => !lt y x := by
  refine sorted_unique T (ord_sorted T idx _) (sort_sorted T idx) ?_
  have := ord_perm (lt := lt) (d := d) idx idx.length (Nat.le_refl _)
  rw [List.take_length] at this
  exact this.trans (List.mergeSort_perm _ _).symm
end

/-! the tree -/
def flipP (t : Bool) (p : Pt) : Pt := if t then (p.2, p.1) else p
/-- Is a point ahead of another one on an axis? -/
def bfK (l : List Pt) (t : Bool) (a b : Nat) : Bool := ltP (flipP t (pA l a)) (flipP t (pA l b)) || (flipP t (pA l a) == flipP t (pA l b) && decide (a < b))
theorem tot_bfK (l : List Pt) (t : Bool) : Tot (bfK l t) where
  irrefl a := by simp [bfK, ltP_irrefl]
  trans a b c h k := by
    simp only [bfK, Bool.or_eq_true, Bool.and_eq_true, beq_iff_eq, decide_eq_true_eq] at *
    rcases h with h | ⟨h, h'⟩ <;> rcases k with k | ⟨k, k'⟩
    · exact .inl (ltP_trans h k)
    · rw [← k]; exact .inl h
    · rw [h]; exact .inl k
    · exact .inr ⟨h.trans k, by omega⟩
  total a b h k := by
    simp only [bfK, Bool.or_eq_false_iff, Bool.and_eq_false_iff, decide_eq_false_iff_not] at *
    have e := ltP_total h.1 k.1
    rcases h.2 with h2 | h2
    · rw [e] at h2; simp at h2
    · rcases k.2 with k2 | k2
      · rw [e] at k2; simp at k2
      · omega
def srtK (l : List Pt) (t : Bool) (idx : List Nat) : List Nat := idx.mergeSort fun x y => !bfK l t y x
theorem srtK_len (l : List Pt) (t : Bool) (idx : List Nat) : (srtK l t idx).length = idx.length := List.length_mergeSort _
theorem srtK_perm (l : List Pt) (t : Bool) (idx : List Nat) : (srtK l t idx).Perm idx := List.mergeSort_perm _ _
def kdF (l : List Pt) : Nat → Bool → List Nat → List Nat
  | 0, _, _ => []
  | n + 1, t, idx => if idx.length = 0 then [] else (srtK l t idx).getD (idx.length / 2) 0 :: (kdF l n (!t) ((srtK l t idx).take (idx.length / 2)) ++ kdF l n (!t) ((srtK l t idx).drop (idx.length / 2 + 1)))
theorem kdF_more (l : List Pt) : ∀ (n m : Nat) (t : Bool) (idx : List Nat), idx.length ≤ n → idx.length ≤ m → kdF l n t idx = kdF l m t idx
  | 0, 0, _, _, _, _ => rfl
  | 0, m + 1, t, idx, h, _ => by rw [kdF, kdF, if_pos (by omega)]
  | n + 1, 0, t, idx, _, h => by rw [kdF, kdF, if_pos (by omega)]
  | n + 1, m + 1, t, idx, h1, h2 => by
    rw [kdF, kdF]
    by_cases h0 : idx.length = 0
    · rw [if_pos h0, if_pos h0]
    · have hs := srtK_len l t idx
      rw [if_neg h0, if_neg h0, kdF_more l n m _ _ (by rw [List.length_take]; omega) (by rw [List.length_take]; omega), kdF_more l n m _ _ (by rw [List.length_drop]; omega) (by rw [List.length_drop]; omega)]
/-- The order of the nodes of the tree of some indices. -/
def kdP (l : List Pt) (t : Bool) (idx : List Nat) : List Nat := kdF l idx.length t idx
theorem kdP_nil (l : List Pt) (t : Bool) : kdP l t [] = [] := rfl
theorem kdP_step (l : List Pt) (t : Bool) {idx : List Nat} (h : 0 < idx.length) :
    kdP l t idx = (srtK l t idx).getD (idx.length / 2) 0 :: (kdP l (!t) ((srtK l t idx).take (idx.length / 2)) ++ kdP l (!t) ((srtK l t idx).drop (idx.length / 2 + 1))) := by
  have hs := srtK_len l t idx
  obtain ⟨n, hn⟩ : ∃ n, idx.length = n + 1 := ⟨idx.length - 1, by omega⟩
  unfold kdP
  conv => lhs; rw [hn, kdF, if_neg (by omega)]
  rw [kdF_more l n _ (!t) ((srtK l t idx).take (idx.length / 2)) (by rw [List.length_take]; omega) (Nat.le_refl _), kdF_more l n _ (!t) ((srtK l t idx).drop (idx.length / 2 + 1)) (by rw [List.length_drop]; omega) (Nat.le_refl _)]
theorem mid_perm {L : List Nat} {h : Nat} (hh : h < L.length) : (L.getD h 0 :: (L.take h ++ L.drop (h + 1))).Perm L := by
  have e : L = L.take h ++ L.getD h 0 :: L.drop (h + 1) := by
    have : L.drop h = L.getD h 0 :: L.drop (h + 1) := by rw [List.drop_eq_getElem_cons hh]; simp [List.getD, hh]
    rw [← this, List.take_append_drop]
  conv => rhs; rw [e]
  exact List.perm_middle.symm
theorem kdP_perm (l : List Pt) : ∀ (n : Nat) (t : Bool) (idx : List Nat), idx.length ≤ n → (kdP l t idx).Perm idx
  | 0, t, idx, h => by
    have : idx = [] := List.eq_nil_of_length_eq_zero (by omega)
    subst this; exact .refl _
  | n + 1, t, idx, h => by
    rcases Nat.eq_zero_or_pos idx.length with h0 | h0
    · have : idx = [] := List.eq_nil_of_length_eq_zero h0
      subst this; exact .refl _
    · have hs := srtK_len l t idx
      rw [kdP_step l t h0]
      refine (List.Perm.cons _ ((kdP_perm l n _ _ (by rw [List.length_take]; omega)).append (kdP_perm l n _ _ (by rw [List.length_drop]; omega)))).trans ?_
      exact (mid_perm (by omega)).trans (srtK_perm l t idx)
theorem kdP_len (l : List Pt) (t : Bool) (idx : List Nat) : (kdP l t idx).length = idx.length := (kdP_perm l _ t idx (Nat.le_refl _)).length_eq
/-- The whole tree. -/
def kdAll (l : List Pt) : List Nat := kdP l false (List.range l.length)
theorem kdAll_len (l : List Pt) : (kdAll l).length = l.length := by rw [kdAll, kdP_len, List.length_range]
theorem kdAll_mem {l : List Pt} {i : Nat} : i ∈ kdAll l ↔ i < l.length := by
  rw [kdAll, (kdP_perm l _ false _ (Nat.le_refl _)).mem_iff, List.mem_range]
def kdRoot (l : List Pt) : Pt := pA l ((kdAll l).getD 0 0)
theorem countP_zero {α : Type} {p : α → Bool} {l : List α} (h : ∀ a ∈ l, p a = false) : l.countP p = 0 := by
  rw [List.countP_eq_zero]
  intro a ha hp
  rw [h a ha] at hp; cases hp
/-- The first point divides the others into two halves. -/
theorem kd_halves {l : List Pt} (h0 : 0 < l.length) :
    (List.range l.length).countP (fun i => ltP (pA l i) (kdRoot l)) ≤ l.length / 2 ∧ (List.range l.length).countP (fun i => ltP (kdRoot l) (pA l i)) ≤ l.length / 2 := by
  obtain ⟨s, hs⟩ : ∃ s, srtK l false (List.range l.length) = s := ⟨_, rfl⟩
  have hlen : s.length = l.length := by rw [← hs, srtK_len, List.length_range]
  have hp : s.Perm (List.range l.length) := by rw [← hs]; exact srtK_perm _ _ _
  have hsort : s.Pairwise (fun a b => bfK l false b a = false) := by rw [← hs]; exact sort_sorted (tot_bfK l false) _
  have hroot : kdRoot l = pA l (s.getD (l.length / 2) 0) := by
    rw [kdRoot, kdAll, kdP_step l false (by rw [List.length_range]; exact h0), hs, List.length_range]; rfl
  have hget : ∀ {i j : Nat}, i < j → j < s.length → bfK l false (s.getD j 0) (s.getD i 0) = false := by
    intro i j hij hj
    have := List.pairwise_iff_getElem.1 hsort i j (by omega) hj hij
    simpa [List.getD, show i < s.length by omega, hj] using this
  have hbf : ∀ a b, ltP (pA l a) (pA l b) = true → bfK l false a b = true := by
    intro a b h
    simp only [bfK, flipP, Bool.false_eq_true, if_false, h, Bool.true_or]
  rw [hroot]
  constructor
  · rw [← hp.countP_eq, ← List.take_append_drop (l.length / 2) s, List.countP_append]
    have z : (s.drop (l.length / 2)).countP (fun i => ltP (pA l i) (pA l (s.getD (l.length / 2) 0))) = 0 := by
      refine countP_zero fun a ha => ?_
      obtain ⟨i, hi, rfl⟩ := List.mem_drop_iff_getElem.1 ha
      have e : s[l.length / 2 + i] = s.getD (l.length / 2 + i) 0 := by simp [List.getD, show l.length / 2 + i < s.length by omega]
      rw [e]
      cases hc : ltP (pA l (s.getD (l.length / 2 + i) 0)) (pA l (s.getD (l.length / 2) 0)) with
      | false => rfl
      | true =>
        rcases Nat.eq_zero_or_pos i with q | q
        · subst q; rw [Nat.add_zero, ltP_irrefl] at hc; cases hc
        · have := hget (show l.length / 2 < l.length / 2 + i by omega) (by omega)
          rw [hbf _ _ hc] at this; cases this
    have y := List.countP_le_length (l := s.take (l.length / 2)) (p := fun i => ltP (pA l i) (pA l (s.getD (l.length / 2) 0)))
    rw [List.length_take] at y
    rw [List.take_append_drop, z]
    omega
  · rw [← hp.countP_eq, ← List.take_append_drop (l.length / 2 + 1) s, List.countP_append]
    have z : (s.take (l.length / 2 + 1)).countP (fun i => ltP (pA l (s.getD (l.length / 2) 0)) (pA l i)) = 0 := by
      refine countP_zero fun a ha => ?_
      obtain ⟨i, hi, rfl⟩ := List.mem_take_iff_getElem.1 ha
      have hi2 : i < s.length := by omega
      have e : s[i] = s.getD i 0 := by simp [List.getD, hi2]
      rw [e]
      cases hc : ltP (pA l (s.getD (l.length / 2) 0)) (pA l (s.getD i 0)) with
      | false => rfl
      | true =>
        rcases Nat.lt_or_ge i (l.length / 2) with q | q
        · have := hget q (by omega)
          rw [hbf _ _ hc] at this; cases this
        · have : i = l.length / 2 := by omega
          rw [this, ltP_irrefl] at hc; cases hc
    have y := List.countP_le_length (l := s.drop (l.length / 2 + 1)) (p := fun i => ltP (pA l (s.getD (l.length / 2) 0)) (pA l i))
    rw [List.length_drop] at y
    rw [List.take_append_drop, z]
    omega
/-! what is left of the row that is sorted part by part -/
def rowF (l : List Pt) : Nat → Bool → List Nat → List Nat
  | 0, _, idx => idx
  | n + 1, t, idx => if idx.length = 0 then idx else rowF l n (!t) ((srtK l t idx).take (idx.length / 2)) ++ (srtK l t idx).getD (idx.length / 2) 0 :: rowF l n (!t) ((srtK l t idx).drop (idx.length / 2 + 1))
theorem rowF_more (l : List Pt) : ∀ (n m : Nat) (t : Bool) (idx : List Nat), idx.length ≤ n → idx.length ≤ m → rowF l n t idx = rowF l m t idx
  | 0, 0, _, _, _, _ => rfl
  | 0, m + 1, t, idx, h, _ => by rw [rowF, rowF, if_pos (by omega)]
  | n + 1, 0, t, idx, _, h => by rw [rowF, rowF, if_pos (by omega)]
  | n + 1, m + 1, t, idx, h1, h2 => by
    rw [rowF, rowF]
    by_cases h0 : idx.length = 0
    · rw [if_pos h0, if_pos h0]
    · have hs := srtK_len l t idx
      rw [if_neg h0, if_neg h0, rowF_more l n m _ _ (by rw [List.length_take]; omega) (by rw [List.length_take]; omega), rowF_more l n m _ _ (by rw [List.length_drop]; omega) (by rw [List.length_drop]; omega)]
def rowK (l : List Pt) (t : Bool) (idx : List Nat) : List Nat := rowF l idx.length t idx
theorem rowK_step (l : List Pt) (t : Bool) {idx : List Nat} (h : 0 < idx.length) :
    rowK l t idx = rowK l (!t) ((srtK l t idx).take (idx.length / 2)) ++ (srtK l t idx).getD (idx.length / 2) 0 :: rowK l (!t) ((srtK l t idx).drop (idx.length / 2 + 1)) := by
  have hs := srtK_len l t idx
  obtain ⟨n, hn⟩ : ∃ n, idx.length = n + 1 := ⟨idx.length - 1, by omega⟩
  unfold rowK
  conv => lhs; rw [hn, rowF, if_neg (by omega)]
  rw [rowF_more l n _ (!t) ((srtK l t idx).take (idx.length / 2)) (by rw [List.length_take]; omega) (Nat.le_refl _), rowF_more l n _ (!t) ((srtK l t idx).drop (idx.length / 2 + 1)) (by rw [List.length_drop]; omega) (Nat.le_refl _)]
theorem rowK_perm (l : List Pt) : ∀ (n : Nat) (t : Bool) (idx : List Nat), idx.length ≤ n → (rowK l t idx).Perm idx
  | 0, t, idx, h => by
    have : idx = [] := List.eq_nil_of_length_eq_zero (by omega)
    subst this; exact .refl _
  | n + 1, t, idx, h => by
    rcases Nat.eq_zero_or_pos idx.length with h0 | h0
    · have : idx = [] := List.eq_nil_of_length_eq_zero h0
      subst this; exact .refl _
    · have hs := srtK_len l t idx
      rw [rowK_step l t h0]
      refine ((rowK_perm l n _ _ (by rw [List.length_take]; omega)).append (List.Perm.cons _ (rowK_perm l n _ _ (by rw [List.length_drop]; omega)))).trans ?_
      refine List.perm_middle.trans ?_
      exact (mid_perm (by omega)).trans (srtK_perm l t idx)
theorem rowK_len (l : List Pt) (t : Bool) (idx : List Nat) : (rowK l t idx).length = idx.length := (rowK_perm l _ t idx (Nat.le_refl _)).length_eq
theorem rowK_mem {l : List Pt} {t : Bool} {idx : List Nat} {x : Nat} : x ∈ rowK l t idx ↔ x ∈ idx := (rowK_perm l _ t idx (Nat.le_refl _)).mem_iff
end Go.Pl
