import Derived.Test.YtggigfogckeamaaDoorPl11
/- The hull of points is a strictly convex ring, hence a simple polygon. -/
set_option linter.unusedVariables false
set_option linter.unusedSimpArgs false
namespace Go.Pl

/-- Neighbours on the chain: whatever is a vertex of the hull lies to the left. -/
theorem chain_left {l : List Pt} (h : Asc l) {pre r : List Pt} {u v a : Pt} (e : chainP l = pre ++ u :: v :: r) (ha : a ∈ l) : 0 ≤ turn u v a ∧ (Ext l a ∨ Top l a → a ≠ u → a ≠ v → 0 < turn u v a) := by
  have hs := chain_stk h
  have e' : chainR l = r.reverse ++ v :: u :: pre.reverse := by
    have : (chainP l).reverse = chainR l := by simp [chainP]
    rw [← this, e]; simp
  have h0 := edge_low hs e' a ha
  refine ⟨h0, fun hx hu hv => ?_⟩
  have mu := (hs.mem u).1 (by rw [e']; simp)
  have mv := (hs.mem v).1 (by rw [e']; simp)
  have hd := asc_chain h
  unfold Asc at hd
  rw [e, List.pairwise_append, List.pairwise_cons] at hd
  have huv : ltP u v = true := hd.2.1.1 v (by simp)
  rcases Int.lt_or_eq_of_le h0 with h1 | h1
  · exact h1
  · exfalso
    rcases Bool.eq_false_or_eq_true (ltP a u) with c | c
    · have := mu.2 a ha v mv.1 c huv
      have e2 : turn a u v = turn u v a := (turn_cyc a u v).symm
      omega
    · have cu : ltP u a = true := by
        rcases Bool.eq_false_or_eq_true (ltP u a) with d | d
        · exact d
        · exact absurd (ltP_total d c).symm hu
      rcases Bool.eq_false_or_eq_true (ltP v a) with c2 | c2
      · have := mv.2 u mu.1 a ha huv c2; omega
      · have cv : ltP a v = true := by
          rcases Bool.eq_false_or_eq_true (ltP a v) with d | d
          · exact d
          · exact absurd (ltP_total d c2) hv
        have e3 : turn u a v = -turn u v a := by unfold turn; grind
        rcases hx with hx | hx
        · have := hx u mu.1 v mv.1 cu cv; omega
        · have := hx u mu.1 v mv.1 cu cv; omega
theorem high_left {l : List Pt} (h : Asc l) {pre r : List Pt} {u v a : Pt} (e : highP l = pre ++ u :: v :: r) (ha : a ∈ l) : 0 ≤ turn u v a ∧ (Ext l a ∨ Top l a → a ≠ u → a ≠ v → 0 < turn u v a) := by
  have hn := asc_neg h
  have e' : chainP (l.reverse.map negP) = pre.map negP ++ negP u :: negP v :: r.map negP := by
    have := highP_eq l
    rw [e] at this
    have h2 : (pre ++ u :: v :: r).map negP = ((chainP (l.reverse.map negP)).map negP).map negP := by rw [this]
    rw [map_neg_neg] at h2
    rw [← h2]; simp
  have hm : negP a ∈ l.reverse.map negP := by rw [mem_neg, negP_neg]; simpa using ha
  obtain ⟨h1, h2⟩ := chain_left hn e' hm
  rw [turn_neg] at h1 h2
  refine ⟨h1, fun hx hu hv => h2 ?_ (fun q => hu ?_) (fun q => hv ?_)⟩
  · have c1 : ∀ x, x ∈ l.reverse.map negP ↔ x ∈ l.map negP := fun x => by simp
    rcases hx with hx | hx
    · right
      intro x hx1 y hy1 l1 l2
      rw [mem_neg, List.mem_reverse] at hx1 hy1
      have := hx (negP y) hy1 (negP x) hx1 (by rw [← negP_neg a, ltP_neg]; exact l2) (by rw [← negP_neg a, ltP_neg]; exact l1)
      have e3 : turn x (negP a) y = -turn (negP y) a (negP x) := by unfold turn negP; grind
      omega
    · left
      intro x hx1 y hy1 l1 l2
      rw [mem_neg, List.mem_reverse] at hx1 hy1
      have := hx (negP y) hy1 (negP x) hx1 (by rw [← negP_neg a, ltP_neg]; exact l2) (by rw [← negP_neg a, ltP_neg]; exact l1)
      have e3 : turn x (negP a) y = -turn (negP y) a (negP x) := by unfold turn negP; grind
      omega
  · have := congrArg negP q; rwa [negP_neg, negP_neg] at this
  · have := congrArg negP q; rwa [negP_neg, negP_neg] at this
theorem split_at {l : List Pt} {i : Nat} (h : i + 1 < l.length) : l = l.take i ++ pA l i :: pA l (i + 1) :: l.drop (i + 2) := by
  have h1 : pA l i = l[i] := by simp [pA, List.getD, show i < l.length by omega]
  have h2 : pA l (i + 1) = l[i + 1] := by simp [pA, List.getD, h]
  rw [h1, h2, ← List.drop_eq_getElem_cons h, ← List.drop_eq_getElem_cons (by omega), List.take_append_drop]
/-- An edge of the hull: all points are to the left or on it, all other vertices to the left. -/
theorem hullA_edge {l : List Pt} (h : Asc l) (h2 : 2 ≤ l.length) {i : Nat} (hi : i < (hullA l).length) {a : Pt} (ha : a ∈ l) :
    0 ≤ turn (edP (hullA l) i).1 (edP (hullA l) i).2 a ∧ (a ∈ hullA l → a ≠ (edP (hullA l) i).1 → a ≠ (edP (hullA l) i).2 → 0 < turn (edP (hullA l) i).1 (edP (hullA l) i).2 a) := by
  have hmem : a ∈ hullA l → Ext l a ∨ Top l a := fun hm => by
    rcases (mem_hullA h h2).1 hm with q | q
    · exact .inl ((mem_chain h).1 q).2
    · exact .inr ((mem_high h).1 q).2
  obtain ⟨m, r, M, rfl⟩ := asc_ends h2
  obtain ⟨L, hL⟩ : ∃ L, m :: (r ++ [M]) = L := ⟨_, rfl⟩
  have hlast : (chainP L).getLast? = some M := by rw [← hL]; simpa using chain_last (m :: r) M
  have hlast2 : (highP L).getLast? = some m := by rw [← hL]; simpa [highP] using chain_last (M :: r.reverse) m
  have hmM : ltP m M = true := by
    unfold Asc at h; rw [List.pairwise_cons] at h; exact h.1 M (by simp)
  rw [hL] at h h2 hi ha hmem ⊢
  have hmL : m ∈ L ∧ Ext L m ∧ Top L m := ⟨by rw [← hL]; simp, by rw [← hL]; exact head_mem_ext (by rw [hL]; exact h)⟩
  have hML : M ∈ L ∧ Ext L M ∧ Top L M := ⟨by rw [← hL]; simp, by
    have := last_mem_ext (m := M) (l := m :: r) (by rw [List.cons_append, hL]; exact h)
    rwa [List.cons_append, hL] at this⟩
  -- the two chains
  have c1 : m ∈ chainP L := (mem_chain h).2 ⟨hmL.1, hmL.2.1⟩
  have d1 : M ∈ highP L := (mem_high h).2 ⟨hML.1, hML.2.2⟩
  obtain ⟨C, hC⟩ : ∃ C, chainP L = C := ⟨_, rfl⟩
  obtain ⟨D, hD⟩ : ∃ D, highP L = D := ⟨_, rfl⟩
  have aC := asc_chain h
  have dD := desc_high h
  have leM : ∀ v ∈ L, ltP M v = false := fun v hv => by
    cases k : ltP M v with
    | false => rfl
    | true =>
      have hh := h
      unfold Asc at hh
      rw [← hL] at hh hv
      rcases List.mem_cons.1 hv with rfl | hv
      · rw [ltP_asymm hmM] at k; cases k
      · rw [List.pairwise_cons, List.pairwise_append] at hh
        rcases List.mem_append.1 hv with hv | hv
        · rw [ltP_asymm (hh.2.2.2 v hv M (by simp))] at k; cases k
        · rw [List.mem_singleton.1 hv, ltP_irrefl] at k; cases k
  have gem : ∀ v ∈ L, ltP v m = false := fun v hv => by
    cases k : ltP v m with
    | false => rfl
    | true =>
      have hh := h
      unfold Asc at hh
      rw [← hL] at hh hv
      rcases List.mem_cons.1 hv with rfl | hv
      · rw [ltP_irrefl] at k; cases k
      · rw [List.pairwise_cons] at hh
        rw [ltP_asymm (hh.1 v hv)] at k; cases k
  have e0 : hullA L = C.dropLast ++ D.dropLast := by rw [hullA, if_neg (by omega), hC, hD]
  rw [hC] at hlast c1 aC
  rw [hD] at hlast2 d1 dD
  have Cne : C ≠ [] := by rintro rfl; cases c1
  have Dne : D ≠ [] := by rintro rfl; cases d1
  have Cl : pA C (C.length - 1) = M := by
    have h0 : C.length - 1 < C.length := by have := List.length_pos_iff.2 Cne; omega
    rw [List.getLast?_eq_getElem?] at hlast
    simp only [pA, List.getD, hlast, Option.getD_some]
  have Dl : pA D (D.length - 1) = m := by
    rw [List.getLast?_eq_getElem?] at hlast2
    simp only [pA, List.getD, hlast2, Option.getD_some]
  have C0 : pA C 0 = m := by
    obtain ⟨k, hk, hkm⟩ := mem_pA c1
    rcases Nat.eq_zero_or_pos k with z | z
    · subst z; exact hkm
    · exfalso
      unfold Asc at aC
      rw [List.pairwise_iff_getElem] at aC
      have h0 : 0 < C.length := by omega
      have := aC 0 k h0 hk z
      have e1 : C[k] = m := by rw [← hkm]; simp [pA, List.getD, hk]
      have : ltP C[0] m = true := by rw [← e1]; exact this
      have hin : C[0] ∈ L := ((mem_chain h).1 (by rw [hC]; exact List.getElem_mem h0)).1
      rw [gem _ hin] at this; cases this
  have D0 : pA D 0 = M := by
    obtain ⟨k, hk, hkm⟩ := mem_pA d1
    rcases Nat.eq_zero_or_pos k with z | z
    · subst z; exact hkm
    · exfalso
      unfold Desc at dD
      rw [List.pairwise_iff_getElem] at dD
      have h0 : 0 < D.length := by omega
      have := dD 0 k h0 hk z
      have e1 : D[k] = M := by rw [← hkm]; simp [pA, List.getD, hk]
      have : ltP M D[0] = true := by rw [← e1]; exact this
      have hin : D[0] ∈ L := ((mem_high h).1 (by rw [hD]; exact List.getElem_mem h0)).1
      rw [leM _ hin] at this; cases this
  have C2 : 2 ≤ C.length := by
    have h0 := List.length_pos_iff.2 Cne
    rcases Nat.lt_or_ge 1 C.length with c | c
    · omega
    · rw [show C.length - 1 = 0 by omega, C0] at Cl
      rw [Cl, ltP_irrefl] at hmM; cases hmM
  have D2 : 2 ≤ D.length := by
    have h0 := List.length_pos_iff.2 Dne
    rcases Nat.lt_or_ge 1 D.length with c | c
    · omega
    · rw [show D.length - 1 = 0 by omega, D0] at Dl
      rw [Dl, ltP_irrefl] at hmM; cases hmM
  have hn : (hullA L).length = (C.length - 1) + (D.length - 1) := by rw [e0, List.length_append, List.length_dropLast, List.length_dropLast]
  have atC : ∀ j, j < C.length - 1 → pA (hullA L) j = pA C j := fun j hj => by
    rw [e0, pA, pA, List.getD, List.getD, List.getElem?_append_left (by rw [List.length_dropLast]; exact hj), List.getElem?_dropLast, if_pos hj]
  have atD : ∀ j, j < D.length - 1 → pA (hullA L) (C.length - 1 + j) = pA D j := fun j hj => by
    rw [e0, pA, pA, List.getD, List.getD, List.getElem?_append_right (by rw [List.length_dropLast]; omega), List.length_dropLast, Nat.add_sub_cancel_left, List.getElem?_dropLast, if_pos hj]
  have hedge : (∃ j, j + 1 < C.length ∧ edP (hullA L) i = (pA C j, pA C (j + 1))) ∨ ∃ j, j + 1 < D.length ∧ edP (hullA L) i = (pA D j, pA D (j + 1)) := by
    rw [hn] at hi
    unfold edP
    rw [hn]
    rcases Nat.lt_or_ge i (C.length - 1) with c | c
    · left
      refine ⟨i, by omega, ?_⟩
      rw [Nat.mod_eq_of_lt (by omega), atC i c]
      congr 1
      rcases Nat.lt_or_ge (i + 1) (C.length - 1) with c2 | c2
      · exact atC _ c2
      · have := atD 0 (by omega)
        rw [D0] at this
        rw [show i + 1 = C.length - 1 by omega, Cl, ← this]; rfl
    · right
      obtain ⟨j, rfl⟩ : ∃ j, i = C.length - 1 + j := ⟨i - (C.length - 1), by omega⟩
      refine ⟨j, by omega, ?_⟩
      rw [atD j (by omega)]
      congr 1
      rcases Nat.lt_or_ge (j + 1) (D.length - 1) with c2 | c2
      · rw [Nat.mod_eq_of_lt (by omega)]; exact atD (j + 1) c2
      · rw [show C.length - 1 + j + 1 = C.length - 1 + (D.length - 1) by omega, Nat.mod_self, atC 0 (by omega), C0, show j + 1 = D.length - 1 by omega, Dl]
  rcases hedge with ⟨j, hj, he⟩ | ⟨j, hj, he⟩
  · rw [he]
    obtain ⟨q1, q2⟩ := chain_left h (hC.trans (split_at hj)) ha
    exact ⟨q1, fun hm => q2 (hmem hm)⟩
  · rw [he]
    obtain ⟨q1, q2⟩ := high_left h (hD.trans (split_at hj)) ha
    exact ⟨q1, fun hm => q2 (hmem hm)⟩

theorem insP_two {l : List Pt} (h : 2 ≤ (hullP l).length) : 2 ≤ (insP l).length := by
  rcases Nat.lt_or_ge (insP l).length 2 with c | c
  · rw [hullP, hullA, if_pos c] at h; omega
  · exact c
theorem hullP_edge {l : List Pt} (h2 : 2 ≤ (hullP l).length) {i : Nat} (hi : i < (hullP l).length) {a : Pt} (ha : a ∈ l) : 0 ≤ turn (edP (hullP l) i).1 (edP (hullP l) i).2 a :=
  (hullA_edge (asc_insP l) (insP_two h2) hi (mem_insP.2 ha)).1
theorem hullP_nodup (l : List Pt) : (hullP l).Nodup := nodup_hullA (asc_insP l)
theorem hullP_strict {l : List Pt} (h2 : 2 ≤ (hullP l).length) {i k : Nat} (hi : i < (hullP l).length) (hk : k < (hullP l).length) (h1 : k ≠ i) (h3 : k ≠ (i + 1) % (hullP l).length) :
    0 < turn (edP (hullP l) i).1 (edP (hullP l) i).2 (pA (hullP l) k) := by
  have hm := pA_mem hk
  have hn := hullP_nodup l
  refine (hullA_edge (asc_insP l) (insP_two h2) hi (mem_insP.2 (mem_hullP_sub hm))).2 hm (fun e => h1 ?_) (fun e => h3 ?_)
  · exact pA_inj hn hk hi e
  · exact pA_inj hn hk (Nat.mod_lt _ (by omega)) e

/-- A strictly convex ring. -/
def Strict (h : List Pt) : Prop := ∀ i, i < h.length → ∀ k, k < h.length → k ≠ i → k ≠ (i + 1) % h.length → 0 < turn (edP h i).1 (edP h i).2 (pA h k)
theorem mod_one {i n : Nat} (hi : i < n) : (i + 1) % n = if i + 1 = n then 0 else i + 1 := by
  split
  · rename_i e; rw [e, Nat.mod_self]
  · exact Nat.mod_eq_of_lt (by omega)
theorem strict_lefts {h : List Pt} (h3 : 3 ≤ h.length) (hs : Strict h) : leftsP h = true := by
  rw [lefts_iff]
  intro i hi
  have e : (i + 2) % h.length = ((i + 1) % h.length + 1) % h.length := by rw [Nat.mod_add_mod]
  have h1 := Nat.mod_lt (i + 1) (show h.length > 0 by omega)
  have a1 := mod_one hi
  have a2 := mod_one h1
  refine hs i hi _ (Nat.mod_lt _ (by omega)) ?_ ?_
  · rw [e, a2]; split at a1 <;> split <;> omega
  · rw [e, a2]; split at a1 <;> split <;> omega
theorem sgn_pos {x : Int} (h : 0 < x) : sgnI x = 1 := by unfold sgnI; rw [if_neg (by omega), if_pos h]
theorem apart {s t : Sg} (h1 : 0 < turn s.1 s.2 t.1) (h2 : 0 < turn s.1 s.2 t.2) (h3 : 0 < turn t.1 t.2 s.1) (h4 : 0 < turn t.1 t.2 s.2) : relP s t = 0 := by
  have he : endsP s t = [] := by
    cases hc : endsP s t with
    | nil => rfl
    | cons p r =>
      exfalso
      have hp : p ∈ endsP s t := by rw [hc]; simp
      rw [endsP, mem_insP] at hp
      simp only [List.mem_filter, List.mem_cons, List.not_mem_nil, or_false, Bool.and_eq_true] at hp
      obtain ⟨h | h | h | h, q1, q2⟩ := hp
      · subst h; rw [off_line (by omega)] at q2; cases q2
      · subst h; rw [off_line (by omega)] at q2; cases q2
      · subst h; rw [off_line (by omega)] at q1; cases q1
      · subst h; rw [off_line (by omega)] at q1; cases q1
  have hx : crossesP s t = false := by unfold crossesP; rw [sgn_pos h1, sgn_pos h2]; rfl
  unfold relP
  rw [he, hx]; rfl
theorem strict_pairs {h : List Pt} (h3 : 3 ≤ h.length) (hs : Strict h) : pairsP h = true := by
  rw [pairs_iff]
  intro i hi k hk
  have a1 := mod_one hi
  have a2 := mod_one (show k < h.length by omega)
  have m1 := Nat.mod_lt (i + 1) (show h.length > 0 by omega)
  have m2 := Nat.mod_lt (k + 1) (show h.length > 0 by omega)
  unfold okS
  cases hn : nextB h.length i k with
  | true =>
    rw [cond_true]
    simp only [nextB, Bool.or_eq_true, decide_eq_true_eq] at hn
    have hab : ∀ {x y z : Pt} {s t : Sg}, 0 < turn x y z → t = (x, y) → s = (y, z) → (relP s t != 3) = true := by
      intro x y z s t hh e1 e2
      subst e1 e2
      exact rel_ne3 (ends_one (by omega))
    by_cases c : k + 1 = i
    · have e2 : (k + 1) % h.length = i := by rw [a2, if_neg (by omega)]; exact c
      have := hs k (by omega) ((i + 1) % h.length) m1 (by split at a1 <;> omega) (by split at a1 <;> omega)
      exact hab this rfl (by unfold edP; rw [e2])
    · have c2 : (i + 1) % h.length = k := hn.elim (fun q => absurd q c) id
      have := hs i hi ((k + 1) % h.length) m2 (by split at a1 <;> split at a2 <;> omega) (by split at a1 <;> split at a2 <;> omega)
      have e := hab (s := edP h k) (t := edP h i) this rfl (by unfold edP; rw [c2])
      have hc : relP (edP h i) (edP h k) = relP (edP h k) (edP h i) := by
        unfold relP
        rw [ends_comm]
        have : crossesP (edP h i) (edP h k) = crossesP (edP h k) (edP h i) := by unfold crossesP; rw [Bool.and_comm]
        rw [this]
      rw [hc]; exact e
  | false =>
    rw [cond_false]
    have c1 : ¬ (k + 1 = i) ∧ ¬ ((i + 1) % h.length = k) := by
      simp only [nextB, Bool.or_eq_false_iff, decide_eq_false_iff_not] at hn; exact hn
    have e2 : (k + 1) % h.length = k + 1 := Nat.mod_eq_of_lt (by omega)
    have q1 : k ≠ (i + 1) % h.length := fun q => c1.2 q.symm
    have q2 : k + 1 ≠ (i + 1) % h.length := by
      rw [a1]; split <;> omega
    have q3 : (i + 1) % h.length ≠ k := c1.2
    have t1 := hs i hi k (by omega) (by omega) q1
    have t2 := hs i hi (k + 1) (by omega) (by omega) q2
    have t3 := hs k (by omega) i hi (by omega) (by omega)
    have t4 := hs k (by omega) ((i + 1) % h.length) m1 q3 (by omega)
    have e3 : (edP h k).2 = pA h (k + 1) := by unfold edP; rw [e2]
    have f1 : (edP h k).1 = pA h k := rfl
    have f2 : (edP h i).1 = pA h i := rfl
    have f3 : (edP h i).2 = pA h ((i + 1) % h.length) := rfl
    rw [← f1] at t1
    rw [← e3] at t2
    rw [← f2] at t3
    rw [← f3] at t4
    rw [apart t1 t2 t3 t4]
    rfl
theorem hullP_Strict {l : List Pt} (h2 : 2 ≤ (hullP l).length) : Strict (hullP l) := fun i hi k hk h1 h3 => hullP_strict h2 hi hk h1 h3

/-! relations, pairs of sides -/
theorem cross_comm (s t : Sg) : crossesP s t = crossesP t s := by unfold crossesP; rw [Bool.and_comm]
theorem rel_comm (s t : Sg) : relP s t = relP t s := by unfold relP; rw [ends_comm, cross_comm]
/-! edges that are neighbours -/
def adjB (n i k : Nat) : Bool := decide ((i + 1) % n = k) || decide ((k + 1) % n = i)
theorem next_adj {n i k : Nat} (hk : k < i) (hi : i < n) : nextB n i k = adjB n i k := by
  have h1 : (k + 1) % n = k + 1 := Nat.mod_eq_of_lt (by omega)
  rw [nextB, adjB, h1, Bool.or_comm]
def okE (n i k : Nat) (r : Int) : Bool := bif adjB n i k then r != 3 else r == 0
theorem okE_comm (n i k : Nat) (r : Int) : okE n i k r = okE n k i r := by unfold okE adjB; rw [Bool.or_comm]
theorem pairs_all {l : List Pt} : pairsP l = true ↔ ∀ i, i < l.length → ∀ k, k < l.length → i ≠ k → okE l.length i k (relP (edP l i) (edP l k)) = true := by
  rw [pairs_iff]
  constructor
  · intro h i hi k hk hne
    rcases Nat.lt_or_gt_of_ne hne with q | q
    · have := h k hk i q
      rw [okS, next_adj q hk] at this
      rw [okE_comm, rel_comm]; exact this
    · have := h i hi k q
      rw [okS, next_adj q hi] at this
      exact this
  · intro h i hi k hk
    have := h i hi k (by omega) (by omega)
    rw [okS, next_adj hk hi]; exact this
end Go.Pl
