import Derived.Test.YtlcndghaendieaaPl23
/- The edges of a hull; the area of a hull grows with its points. -/
set_option linter.unusedVariables false
set_option linter.unusedSimpArgs false
namespace Go.Pl

/-- Neighbours in a list. -/
def nbr (X : List Pt) : List Sg := (List.range (X.length - 1)).map fun j => (pA X j, pA X (j + 1))
def edgs (h : List Pt) : List Sg := (List.range h.length).map (edP h)
theorem hullA_edgs {l : List Pt} (h : Asc l) (h2 : 2 ≤ l.length) : edgs (hullA l) = nbr (chainP l) ++ nbr (highP l) := by
  obtain ⟨m, r, M, rfl⟩ := asc_ends h2
  obtain ⟨L, hL⟩ : ∃ L, m :: (r ++ [M]) = L := ⟨_, rfl⟩
  have hlast : (chainP L).getLast? = some M := by rw [← hL]; simpa using chain_last (m :: r) M
  have hlast2 : (highP L).getLast? = some m := by rw [← hL]; simpa [highP] using chain_last (M :: r.reverse) m
  have hmM : ltP m M = true := by
    unfold Asc at h; rw [List.pairwise_cons] at h; exact h.1 M (by simp)
  rw [hL] at h h2 ⊢
  have hmL : m ∈ L ∧ Ext L m ∧ Top L m := ⟨by rw [← hL]; simp, by rw [← hL]; exact head_mem_ext (by rw [hL]; exact h)⟩
  have hML : M ∈ L ∧ Ext L M ∧ Top L M := ⟨by rw [← hL]; simp, by
    have := last_mem_ext (m := M) (l := m :: r) (by rw [List.cons_append, hL]; exact h)
    rwa [List.cons_append, hL] at this⟩
  -- the two chains
  have c1 : m ∈ chainP L := (mem_chain h).2 ⟨hmL.1, hmL.2.1⟩
  have d1 : M ∈ highP L := (mem_high h).2 ⟨hML.1, hML.2.2⟩
  obtain ⟨C, hC⟩ : ∃ C, chainP L = C := ⟨_, rfl⟩
  obtain ⟨D, hD⟩ : ∃ D, highP L = D := ⟨_, rfl⟩
  have aC := asc_chain h
  have dD := desc_high h
  have leM : ∀ v ∈ L, ltP M v = false := fun v hv => by
    cases k : ltP M v with
    | false => rfl
    | true =>
      have hh := h
      unfold Asc at hh
      rw [← hL] at hh hv
      rcases List.mem_cons.1 hv with rfl | hv
      · rw [ltP_asymm hmM] at k; cases k
      · rw [List.pairwise_cons, List.pairwise_append] at hh
        rcases List.mem_append.1 hv with hv | hv
        · rw [ltP_asymm (hh.2.2.2 v hv M (by simp))] at k; cases k
        · rw [List.mem_singleton.1 hv, ltP_irrefl] at k; cases k
  have gem : ∀ v ∈ L, ltP v m = false := fun v hv => by
    cases k : ltP v m with
    | false => rfl
    | true =>
      have hh := h
      unfold Asc at hh
      rw [← hL] at hh hv
      rcases List.mem_cons.1 hv with rfl | hv
      · rw [ltP_irrefl] at k; cases k
      · rw [List.pairwise_cons] at hh
        rw [ltP_asymm (hh.1 v hv)] at k; cases k
  have e0 : hullA L = C.dropLast ++ D.dropLast := by rw [hullA, if_neg (by omega), hC, hD]
  rw [hC] at hlast c1 aC
  rw [hD] at hlast2 d1 dD
  have Cne : C ≠ [] := by rintro rfl; cases c1
  have Dne : D ≠ [] := by rintro rfl; cases d1
  have Cl : pA C (C.length - 1) = M := by
    have h0 : C.length - 1 < C.length := by have := List.length_pos_iff.2 Cne; omega
    rw [List.getLast?_eq_getElem?] at hlast
    simp only [pA, List.getD, hlast, Option.getD_some]
  have Dl : pA D (D.length - 1) = m := by
    rw [List.getLast?_eq_getElem?] at hlast2
    simp only [pA, List.getD, hlast2, Option.getD_some]
  have C0 : pA C 0 = m := by
    obtain ⟨k, hk, hkm⟩ := mem_pA c1
    rcases Nat.eq_zero_or_pos k with z | z
    · subst z; exact hkm
    · exfalso
      unfold Asc at aC
      rw [List.pairwise_iff_getElem] at aC
      have h0 : 0 < C.length := by omega
      have := aC 0 k h0 hk z
      have e1 : C[k] = m := by rw [← hkm]; simp [pA, List.getD, hk]
      have : ltP C[0] m = true := by rw [← e1]; exact this
      have hin : C[0] ∈ L := ((mem_chain h).1 (by rw [hC]; exact List.getElem_mem h0)).1
      rw [gem _ hin] at this; cases this
  have D0 : pA D 0 = M := by
    obtain ⟨k, hk, hkm⟩ := mem_pA d1
    rcases Nat.eq_zero_or_pos k with z | z
    · subst z; exact hkm
    · exfalso
      unfold Desc at dD
      rw [List.pairwise_iff_getElem] at dD
      have h0 : 0 < D.length := by omega
      have := dD 0 k h0 hk z
      have e1 : D[k] = M := by rw [← hkm]; simp [pA, List.getD, hk]
      have : ltP M D[0] = true := by rw [← e1]; exact this
      have hin : D[0] ∈ L := ((mem_high h).1 (by rw [hD]; exact List.getElem_mem h0)).1
      rw [leM _ hin] at this; cases this
  have C2 : 2 ≤ C.length := by
    have h0 := List.length_pos_iff.2 Cne
    rcases Nat.lt_or_ge 1 C.length with c | c
    · omega
    · rw [show C.length - 1 = 0 by omega, C0] at Cl
      rw [Cl, ltP_irrefl] at hmM; cases hmM
  have D2 : 2 ≤ D.length := by
    have h0 := List.length_pos_iff.2 Dne
    rcases Nat.lt_or_ge 1 D.length with c | c
    · omega
    · rw [show D.length - 1 = 0 by omega, D0] at Dl
      rw [Dl, ltP_irrefl] at hmM; cases hmM
  have hn : (hullA L).length = (C.length - 1) + (D.length - 1) := by rw [e0, List.length_append, List.length_dropLast, List.length_dropLast]
  have atC : ∀ j, j < C.length - 1 → pA (hullA L) j = pA C j := fun j hj => by
    rw [e0, pA, pA, List.getD, List.getD, List.getElem?_append_left (by rw [List.length_dropLast]; exact hj), List.getElem?_dropLast, if_pos hj]
  have atD : ∀ j, j < D.length - 1 → pA (hullA L) (C.length - 1 + j) = pA D j := fun j hj => by
    rw [e0, pA, pA, List.getD, List.getD, List.getElem?_append_right (by rw [List.length_dropLast]; omega), List.length_dropLast, Nat.add_sub_cancel_left, List.getElem?_dropLast, if_pos hj]
  rw [hC, hD]
  refine List.ext_getElem (by simp [edgs, nbr, hn]) ?_
  intro i h1 h2
  have hi : i < (C.length - 1) + (D.length - 1) := by simpa [edgs, hn] using h1
  have e1 : (edgs (hullA L))[i] = edP (hullA L) i := by simp [edgs]
  rw [e1]
  unfold edP
  rw [hn]
  rcases Nat.lt_or_ge i (C.length - 1) with c | c
  · rw [List.getElem_append_left (by simpa [nbr] using c)]
    have e2 : (nbr C)[i]'(by simpa [nbr] using c) = (pA C i, pA C (i + 1)) := by simp [nbr]
    rw [e2, Nat.mod_eq_of_lt (by omega), atC i c]
    congr 1
    rcases Nat.lt_or_ge (i + 1) (C.length - 1) with c2 | c2
    · exact atC _ c2
    · have := atD 0 (by omega)
      rw [D0] at this
      rw [show i + 1 = C.length - 1 by omega, Cl, ← this]; rfl
  · obtain ⟨j, rfl⟩ : ∃ j, i = C.length - 1 + j := ⟨i - (C.length - 1), by omega⟩
    rw [List.getElem_append_right (by simp [nbr])]
    have e2 : (nbr D)[C.length - 1 + j - (nbr C).length]'(by simp [nbr]; omega) = (pA D j, pA D (j + 1)) := by
      have : C.length - 1 + j - (nbr C).length = j := by simp [nbr]
      simp [nbr]
    rw [e2, atD j (by omega)]
    congr 1
    rcases Nat.lt_or_ge (j + 1) (D.length - 1) with c2 | c2
    · rw [Nat.mod_eq_of_lt (by omega)]; exact atD (j + 1) c2
    · rw [show C.length - 1 + j + 1 = C.length - 1 + (D.length - 1) by omega, Nat.mod_self, atC 0 (by omega), C0, show j + 1 = D.length - 1 by omega, Dl]

theorem nbr_split {X : List Pt} {e : Sg} : e ∈ nbr X ↔ ∃ pre r, X = pre ++ e.1 :: e.2 :: r := by
  simp only [nbr, List.mem_map, List.mem_range]
  constructor
  · rintro ⟨j, hj, rfl⟩
    exact ⟨_, _, split_at (by omega)⟩
  · rintro ⟨pre, r, hX⟩
    refine ⟨pre.length, by rw [hX]; simp, ?_⟩
    rw [hX]
    simp [pA, List.getD]
/-- In an ascending list what has nothing between is next to each other. -/
theorem next_of : ∀ {X : List Pt} {u v : Pt}, Asc X → u ∈ X → v ∈ X → ltP u v = true → (∀ w ∈ X, ltP u w = true → ltP w v = true → False) → ∃ pre r, X = pre ++ u :: v :: r
  | x :: X, u, v, ha, hu, hv, huv, hno => by
    unfold Asc at ha
    rw [List.pairwise_cons] at ha
    by_cases e : u = x
    · subst e
      have hv' : v ∈ X := by
        rcases List.mem_cons.1 hv with h | h
        · rw [h, ltP_irrefl] at huv; cases huv
        · exact h
      match X, hv', ha, hno with
      | y :: X, hv', ha, hno =>
        rcases List.mem_cons.1 hv' with h | h
        · exact ⟨[], X, by rw [h]; rfl⟩
        · have h2 := ha.2
          rw [List.pairwise_cons] at h2
          exact (hno y (by simp) (ha.1 y (by simp)) (h2.1 v h)).elim
    · have hu' : u ∈ X := by
        rcases List.mem_cons.1 hu with h | h
        · exact absurd h e
        · exact h
      have hv' : v ∈ X := by
        rcases List.mem_cons.1 hv with h | h
        · subst h
          have := ha.1 u hu'
          rw [ltP_asymm this] at huv; cases huv
        · exact h
      obtain ⟨pre, r, hX⟩ := next_of ha.2 hu' hv' huv (fun w hw => hno w (List.mem_cons_of_mem _ hw))
      exact ⟨x :: pre, r, by rw [hX]; rfl⟩
/-- An edge of the lower chain stays one if all further points lie to its left. -/
theorem chain_keep {S T : List Pt} (hS : Asc S) (hT : Asc T) (hsub : ∀ a ∈ S, a ∈ T) {e : Sg} (he : e ∈ nbr (chainP S)) (hp : ∀ a ∈ T, a ∉ S → 0 < turn e.1 e.2 a) : e ∈ nbr (chainP T) := by
  obtain ⟨u, v⟩ := e
  simp only [] at hp
  obtain ⟨pre, r, hC⟩ := nbr_split.1 he
  simp only [] at hC
  have hs := chain_stk hS
  have hu : u ∈ S ∧ Ext S u := (mem_chain hS).1 (by rw [hC]; simp)
  have hv : v ∈ S ∧ Ext S v := (mem_chain hS).1 (by rw [hC]; simp)
  have huv : ltP u v = true := by
    have hd := asc_chain hS
    unfold Asc at hd
    rw [hC, List.pairwise_append, List.pairwise_cons] at hd
    exact hd.2.1.1 v (by simp)
  have hge : ∀ a ∈ T, 0 ≤ turn u v a := fun a ha => by
    by_cases c : a ∈ S
    · exact (chain_left hS hC c).1
    · have := hp a ha c; omega
  have hlt : ∀ a ∈ T, ltP a u = true ∨ ltP v a = true → 0 < turn u v a := fun a ha h => by
    by_cases c : a ∈ S
    · rcases h with h | h
      · have := hu.2 a c v hv.1 h huv
        rw [← turn_cyc] at this; exact this
      · exact hv.2 u hu.1 a c huv h
    · exact hp a ha c
  have eu : Ext T u := fun a ha b hb h1 h2 => by
    have k1 : 0 < turn a u v := by rw [← turn_cyc]; exact hlt a ha (.inl h1)
    exact turn_side' h1 huv h2 k1 (hge b hb)
  have ev : Ext T v := fun a ha b hb h1 h2 => turn_side huv h1 h2 (hge a ha) (hlt b hb (.inr h2))
  refine nbr_split.2 (next_of (asc_chain hT) ((mem_chain hT).2 ⟨hsub u hu.1, eu⟩) ((mem_chain hT).2 ⟨hsub v hv.1, ev⟩) huv fun w hw h1 h2 => ?_)
  have hw' := (mem_chain hT).1 hw
  have := hw'.2 u (hsub u hu.1) v (hsub v hv.1) h1 h2
  have e3 : turn u w v = -turn u v w := by unfold turn; grind
  have := hge w hw'.1
  omega
theorem nbr_neg (X : List Pt) : nbr (X.map negP) = (nbr X).map fun e => (negP e.1, negP e.2) := by
  unfold nbr
  rw [List.length_map, List.map_map]
  refine List.map_congr_left fun j hj => ?_
  rw [List.mem_range] at hj
  have h : ∀ i, i < X.length → pA (X.map negP) i = negP (pA X i) := fun i hi => by
    simp [pA, List.getD, hi]
  show (pA (X.map negP) j, pA (X.map negP) (j + 1)) = (negP (pA X j), negP (pA X (j + 1)))
  rw [h j (by omega), h (j + 1) (by omega)]
theorem high_keep {S T : List Pt} (hS : Asc S) (hT : Asc T) (hsub : ∀ a ∈ S, a ∈ T) {e : Sg} (he : e ∈ nbr (highP S)) (hp : ∀ a ∈ T, a ∉ S → 0 < turn e.1 e.2 a) : e ∈ nbr (highP T) := by
  rw [highP_eq, nbr_neg, List.mem_map] at he ⊢
  obtain ⟨f, hf, rfl⟩ := he
  refine ⟨f, chain_keep (asc_neg hS) (asc_neg hT) (fun a ha => ?_) hf (fun a ha hn => ?_), rfl⟩
  · rw [mem_neg, List.mem_reverse] at ha ⊢; exact hsub _ ha
  · rw [mem_neg, List.mem_reverse] at ha hn
    have := hp _ ha hn
    rw [← turn_neg, negP_neg, negP_neg, negP_neg] at this
    exact this
theorem edge_keep {S T : List Pt} (hS : Asc S) (hT : Asc T) (h2 : 2 ≤ S.length) (hsub : ∀ a ∈ S, a ∈ T) {e : Sg} (he : e ∈ edgs (hullA S)) (hp : ∀ a ∈ T, a ∉ S → 0 < turn e.1 e.2 a) : e ∈ edgs (hullA T) := by
  have h3 : 2 ≤ T.length := Nat.le_trans h2 (nodup_len_le (asc_nodup hS) hsub)
  rw [hullA_edgs hS h2, List.mem_append] at he
  rw [hullA_edgs hT h3, List.mem_append]
  rcases he with h | h
  · exact .inl (chain_keep hS hT hsub h hp)
  · exact .inr (high_keep hS hT hsub h hp)

/-! sums -/
def sumE (f : Sg → Int) : List Sg → Int
  | [] => 0
  | e :: l => f e + sumE f l
theorem sumE_app (f : Sg → Int) : ∀ a b : List Sg, sumE f (a ++ b) = sumE f a + sumE f b
  | [], b => by simp [sumE]
  | e :: a, b => by rw [List.cons_append, sumE, sumE, sumE_app f a b]; omega
theorem sumE_nonneg {f : Sg → Int} : ∀ {l : List Sg}, (∀ e ∈ l, 0 ≤ f e) → 0 ≤ sumE f l
  | [], _ => by simp [sumE]
  | e :: l, h => by
    have h1 := h e (by simp)
    have h2 := sumE_nonneg (l := l) fun x hx => h x (by simp [hx])
    rw [sumE]; omega
theorem sumE_erase {f : Sg → Int} : ∀ {l : List Sg} {e : Sg}, e ∈ l → sumE f l = f e + sumE f (l.erase e)
  | x :: l, e, h => by
    by_cases c : x = e
    · subst c; rw [List.erase_cons_head, sumE]
    · have he : e ∈ l := by
        rcases List.mem_cons.1 h with h | h
        · exact absurd h.symm c
        · exact h
      rw [List.erase_cons_tail (by simpa using c), sumE, sumE, sumE_erase he]; omega
/-- What is positive in the one sum stands in the other. -/
theorem sumE_le {f : Sg → Int} : ∀ {a b : List Sg}, a.Nodup → (∀ e ∈ a, 0 < f e → e ∈ b) → (∀ e ∈ b, 0 ≤ f e) → sumE f a ≤ sumE f b
  | [], b, _, _, hb => by rw [sumE]; exact sumE_nonneg hb
  | e :: a, b, hn, hs, hb => by
    rw [List.nodup_cons] at hn
    rw [sumE]
    by_cases c : 0 < f e
    · have he := hs e (by simp) c
      have ih := sumE_le (a := a) (b := b.erase e) hn.2 (fun x hx hp => (List.mem_erase_of_ne (by rintro rfl; exact hn.1 hx)).2 (hs x (by simp [hx]) hp)) (fun x hx => hb x (List.mem_of_mem_erase hx))
      rw [sumE_erase he]; omega
    · have ih := sumE_le (a := a) (b := b) hn.2 (fun x hx hp => hs x (by simp [hx]) hp) hb
      omega
theorem fan_edgs (h : List Pt) (o : Pt) : ∀ n, fanN h o n = sumE (fun e => turn o e.1 e.2) ((List.range n).map (edP h))
  | 0 => rfl
  | n + 1 => by
    rw [List.range_succ, List.map_append, sumE_app, ← fan_edgs h o n, fanN]
    simp [sumE, edP]
theorem edgs_nodup {h : List Pt} (hn : h.Nodup) : (edgs h).Nodup := by
  unfold edgs
  refine List.pairwise_map.2 (List.Pairwise.imp_of_mem ?_ List.nodup_range)
  intro i j hi hj hij e
  rw [List.mem_range] at hi hj
  exact hij (pA_inj hn hi hj (congrArg Prod.fst e))
/-- One more point: the hull does not get smaller. -/
theorem area_step (S : List Pt) (p : Pt) : sumN (hullP S) (hullP S).length ≤ sumN (hullP (p :: S)) (hullP (p :: S)).length := by
  by_cases hpS : p ∈ S
  · have : hullP (p :: S) = hullP S := hullP_congr fun x => by
      simp only [List.mem_cons]
      exact ⟨fun h => h.elim (fun e => e ▸ hpS) id, .inr⟩
    rw [this]; exact Int.le_refl _
  · have hsub : ∀ a ∈ insP S, a ∈ insP (p :: S) := fun a ha => mem_insP.2 (List.mem_cons_of_mem _ (mem_insP.1 ha))
    have hlen : (insP S).length ≤ (insP (p :: S)).length := nodup_len_le (asc_nodup (asc_insP S)) hsub
    have h0 : 0 ≤ sumN (hullP (p :: S)) (hullP (p :: S)).length := by
      rcases Nat.lt_or_ge (hullP (p :: S)).length 2 with c | c
      · match hh : hullP (p :: S), c with
        | [], _ => simp [sumN]
        | [x], _ => simp [sumN, crs, pA]; have := Int.mul_comm x.1 x.2; omega
      · exact hull_sum_nonneg c
    rcases Nat.lt_or_ge (insP S).length 2 with c | c
    · have : sumN (hullP S) (hullP S).length = 0 := by
        have hl := nodup_len_le (hullP_nodup S) (fun x hx => mem_insP.2 (mem_hullP_sub hx))
        have hl2 : (hullP S).length < 2 := by omega
        match hh : hullP S, hl2 with
        | [], _ => simp [sumN]
        | [x], _ => simp [sumN, crs, pA]; have := Int.mul_comm x.1 x.2; omega
      omega
    · have hb2 : 2 ≤ (hullP (p :: S)).length := by
        have hT := asc_insP (p :: S)
        have h2 : 2 ≤ (insP (p :: S)).length := by omega
        have := hullA_edgs hT h2
        have hl := congrArg List.length this
        obtain ⟨m, r, M, hm⟩ := asc_ends h2
        have hmM : m ≠ M := by
          have := hT
          rw [hm] at this
          unfold Asc at this; rw [List.pairwise_cons] at this
          exact ltP_ne (this.1 M (by simp))
        have hm1 := head_mem_ext (m := m) (l := r ++ [M]) (by rw [← hm]; exact hT)
        have hm2 := last_mem_ext (m := M) (l := m :: r) (by rw [List.cons_append, ← hm]; exact hT)
        rw [List.cons_append] at hm2
        have a1 : m ∈ hullP (p :: S) := by rw [hullP, hm]; exact (mem_hullA (by rw [← hm]; exact hT) (by rw [← hm]; exact h2)).2 (.inl ((mem_chain (by rw [← hm]; exact hT)).2 ⟨by simp, hm1.1⟩))
        have a2 : M ∈ hullP (p :: S) := by rw [hullP, hm]; exact (mem_hullA (by rw [← hm]; exact hT) (by rw [← hm]; exact h2)).2 (.inl ((mem_chain (by rw [← hm]; exact hT)).2 ⟨by simp, hm2.1⟩))
        have := nodup_len_le (a := [m, M]) (by simp [hmM]) (fun x hx => by
          simp only [List.mem_cons, List.not_mem_nil, or_false] at hx
          rcases hx with rfl | rfl
          · exact a1
          · exact a2)
        simpa using this
      rw [← fan_all (hullP S) p, ← fan_all (hullP (p :: S)) p, fan_edgs, fan_edgs]
      refine sumE_le (edgs_nodup (hullP_nodup S)) (fun e he hp => ?_) (fun e he => ?_)
      · refine edge_keep (asc_insP S) (asc_insP (p :: S)) c hsub he fun a ha hn => ?_
        have : a = p := by
          rcases List.mem_cons.1 (mem_insP.1 ha) with h | h
          · exact h
          · exact absurd (mem_insP.2 h) hn
        subst this
        rw [turn_cyc]; exact hp
      · simp only [List.mem_map, List.mem_range] at he
        obtain ⟨i, hi, rfl⟩ := he
        rw [← turn_cyc]
        exact hullP_edge hb2 hi (by simp)
theorem area_more (S : List Pt) : ∀ T : List Pt, sumN (hullP S) (hullP S).length ≤ sumN (hullP (T ++ S)) (hullP (T ++ S)).length
  | [] => Int.le_refl _
  | p :: T => Int.le_trans (area_more S T) (area_step (T ++ S) p)
theorem area_sub {S T : List Pt} (h : ∀ a ∈ S, a ∈ T) : sumN (hullP S) (hullP S).length ≤ sumN (hullP T) (hullP T).length := by
  have h1 := area_more S T
  have : hullP (T ++ S) = hullP T := hullP_congr fun x => by
    simp only [List.mem_append]
    exact ⟨fun q => q.elim id (h x), .inl⟩
  rwa [this] at h1
end Go.Pl
