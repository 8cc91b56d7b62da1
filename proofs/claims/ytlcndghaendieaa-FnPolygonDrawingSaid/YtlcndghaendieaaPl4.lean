import Derived.Test.YtlcndghaendieaaPl3
/- Hulls of hulls: plain facts. -/
set_option linter.unusedVariables false
set_option linter.unusedSimpArgs false
namespace Go.Pl

theorem ang' {px py qx qy rx ry : Int} (hp : 0 < px ∨ (px = 0 ∧ 0 < py)) (hq : 0 < qx ∨ (qx = 0 ∧ 0 < qy)) (hr : 0 < rx ∨ (rx = 0 ∧ 0 < ry))
    (h1 : 0 < px * qy - py * qx) (h2 : 0 ≤ qx * ry - qy * rx) : 0 < px * ry - py * rx := by
  have id1 : qx * (px * ry - py * rx) = (px * qy - py * qx) * rx + (qx * ry - qy * rx) * px := by grind
  have id2 : qy * (px * ry - py * rx) = (px * qy - py * qx) * ry + (qx * ry - qy * rx) * py := by grind
  have hpx : 0 ≤ px := by omega
  have h4 : 0 ≤ (qx * ry - qy * rx) * px := Int.mul_nonneg h2 hpx
  rcases hq with hq | ⟨rfl, hq⟩
  · rcases hr with hr | ⟨rfl, hr⟩
    · have h3 := Int.mul_pos h1 hr
      have h5 : 0 < qx * (px * ry - py * rx) := by omega
      exact Int.pos_of_mul_pos_right h5 (by omega)
    · rcases hp with hp | ⟨rfl, hp⟩
      · have := Int.mul_pos hp hr; grind
      · have := Int.mul_pos hp hq; grind
  · rcases hr with hr | ⟨rfl, hr⟩
    · have := Int.mul_pos hq hr; grind
    · rcases hp with hp | ⟨rfl, hp⟩
      · have := Int.mul_pos hp hr; grind
      · grind

theorem turn_side' {a v w b : Pt} (h1 : ltP a v = true) (h2 : ltP v w = true) (h3 : ltP v b = true) (k1 : 0 < turn a v w) (k2 : 0 ≤ turn v w b) : 0 < turn a v b := by
  have h := ang' (lt_pos h1) (lt_pos h2) (lt_pos h3) (by unfold turn at k1; grind) (by unfold turn at k2; grind)
  unfold turn at *
  grind

theorem bound2 (a : Pt) : ∀ T : List Pt, ∃ N : Int, 0 ≤ N ∧ ∀ t ∈ T, t.2 - a.2 ≤ N ∧ a.2 - t.2 ≤ N
  | [] => ⟨0, by omega, by simp⟩
  | t :: T => by
    obtain ⟨N, h0, h⟩ := bound2 a T
    refine ⟨N + (t.2 - a.2).natAbs, by omega, fun x hx => ?_⟩
    rcases List.mem_cons.1 hx with rfl | hx
    · omega
    · have := h x hx; omega

/-- What is strictly extreme in T is so in S, if S is nowhere farther than T. -/
theorem ext_up {S T : List Pt} (hT : Asc T) (hsub : ∀ t ∈ T, t ∈ S) (hsup : ∀ dx dy, ∀ q ∈ S, ∃ t ∈ T, lin dx dy q ≤ lin dx dy t) {v : Pt} (hv : v ∈ T) (hE : Ext T v) : Ext S v := by
  intro a ha b hb h1 h2
  have hk := chain_stk hT
  have hvm := (hk.mem v).2 ⟨hv, hE⟩
  obtain ⟨pre, r, e⟩ := List.append_of_mem hvm
  have hd := hk.desc
  unfold Desc at hd
  rw [e, List.pairwise_append, List.pairwise_cons] at hd
  cases r with
  | nil =>
    exfalso
    have hb := desc_bottom hT hk e
    obtain ⟨N, h0, hN⟩ := bound2 a T
    obtain ⟨t, ht, hl⟩ := hsup (-(N + 1)) (-1) a ha
    have hvt := hb t ht
    have hat : ltP a t = true := by
      cases k : ltP v t with
      | true => exact ltP_trans h1 k
      | false => rw [← ltP_total hvt k] at h1; exact h1
    have hn := hN t ht
    rcases lt_pos hat with hx | ⟨hx, hy⟩
    · have : (N + 1) * 1 ≤ (N + 1) * (t.1 - a.1) := Int.mul_le_mul_of_nonneg_left (by omega) (by omega)
      unfold lin at hl
      grind
    · have : t.1 = a.1 := by omega
      unfold lin at hl
      grind
  | cons u r =>
    have huv : ltP u v = true := hd.2.1.1 u (by simp)
    have side : ∀ {pre r : List Pt} {u v : Pt}, chainR T = pre ++ v :: u :: r → ∀ q ∈ S, 0 ≤ turn u v q := by
      intro pre r u v e q hq
      obtain ⟨t, ht, hl⟩ := hsup (v.2 - u.2) (-(v.1 - u.1)) q hq
      have := edge_low hk e t ht
      have t1 : turn u v q = lin (v.2 - u.2) (-(v.1 - u.1)) u - lin (v.2 - u.2) (-(v.1 - u.1)) q := by unfold turn lin; grind
      have t2 : turn u v t = lin (v.2 - u.2) (-(v.1 - u.1)) u - lin (v.2 - u.2) (-(v.1 - u.1)) t := by unfold turn lin; grind
      omega
    rcases List.eq_nil_or_concat pre with rfl | ⟨pre', w, rfl⟩
    · exfalso
      have hmax : ∀ t ∈ T, ltP v t = false := by
        intro t ht
        cases T with
        | nil => simp at ht
        | cons m T' =>
          have hne : m :: T' ≠ [] := by simp
          have e2 := List.dropLast_concat_getLast hne
          have hM := last_mem_ext (l := (m :: T').dropLast) (m := (m :: T').getLast hne) (by rw [e2]; exact hT)
          rw [e2] at hM
          have hMm := (hk.mem _).2 ⟨List.getLast_mem hne, hM.1⟩
          have hT' := hT
          unfold Asc at hT'
          rw [← e2, List.pairwise_append] at hT'
          have htM : ltP ((m :: T').getLast hne) t = false := by
            rw [← e2] at ht
            rcases List.mem_append.1 ht with ht | ht
            · exact ltP_asymm (hT'.2.2 t ht _ (by simp))
            · rw [List.mem_singleton.1 ht, ltP_irrefl]
          rw [e, List.nil_append] at hMm
          rcases List.mem_cons.1 hMm with h | h
          · rwa [h] at htM
          · have h3 := hd.2.1.1 _ h
            cases k : ltP v t with
            | false => rfl
            | true => rw [ltP_trans h3 k] at htM; cases htM
      obtain ⟨N, h0, hN⟩ := bound2 b T
      obtain ⟨t, ht, hl⟩ := hsup (N + 1) 1 b hb
      have hvt := hmax t ht
      have hat : ltP t b = true := by
        cases k : ltP t v with
        | true => exact ltP_trans k h2
        | false => rw [← ltP_total k hvt] at h2; exact h2
      have hn := hN t ht
      rcases lt_pos hat with hx | ⟨hx, hy⟩
      · have : (N + 1) * 1 ≤ (N + 1) * (b.1 - t.1) := Int.mul_le_mul_of_nonneg_left (by omega) (by omega)
        unfold lin at hl
        grind
      · have : t.1 = b.1 := by omega
        unfold lin at hl
        grind
    · have e3 : chainR T = pre' ++ w :: v :: (u :: r) := by rw [e]; simp
      have hw : ltP v w = true := hd.2.2 w (by simp) v (by simp)
      have huT := (hk.mem u).1 (by rw [e]; simp)
      have hwT := (hk.mem w).1 (by rw [e]; simp)
      have k1 := hE u huT.1 w hwT.1 huv hw
      have k2 := side e a ha
      have k3 := side e3 b hb
      exact turn_side' h1 hw h2 (turn_side huv h1 hw k2 k1) k3

theorem ext_congr {S T : List Pt} (h : ∀ x, x ∈ S ↔ x ∈ T) {v : Pt} : Ext S v ↔ Ext T v :=
  ⟨fun hE a ha b hb => hE a ((h a).2 ha) b ((h b).2 hb), fun hE a ha b hb => hE a ((h a).1 ha) b ((h b).1 hb)⟩
theorem top_congr {S T : List Pt} (h : ∀ x, x ∈ S ↔ x ∈ T) {v : Pt} : Top S v ↔ Top T v :=
  ⟨fun hE a ha b hb => hE a ((h a).2 ha) b ((h b).2 hb), fun hE a ha b hb => hE a ((h a).1 ha) b ((h b).1 hb)⟩
theorem top_neg {S : List Pt} {v : Pt} : Top S v ↔ Ext (S.map negP) (negP v) := by
  constructor
  · intro hT a ha b hb h1 h2
    rw [mem_neg] at ha hb
    have := hT (negP b) hb (negP a) ha (by rw [← negP_neg v, ltP_neg]; exact h2) (by rw [← negP_neg v, ltP_neg]; exact h1)
    have e : turn a (negP v) b = - turn (negP b) v (negP a) := by unfold turn negP; grind
    omega
  · intro hE a ha b hb h1 h2
    have := hE (negP b) (by rw [mem_neg, negP_neg]; simpa using hb) (negP a) (by rw [mem_neg, negP_neg]; simpa using ha) (by rw [ltP_neg]; exact h2) (by rw [ltP_neg]; exact h1)
    rw [turn_neg] at this
    have e : turn b v a = - turn a v b := by unfold turn; grind
    omega
theorem top_up {S T : List Pt} (hT : Asc T) (hsub : ∀ t ∈ T, t ∈ S) (hsup : ∀ dx dy, ∀ q ∈ S, ∃ t ∈ T, lin dx dy q ≤ lin dx dy t) {v : Pt} (hv : v ∈ T) (hE : Top T v) : Top S v := by
  rw [top_neg] at hE ⊢
  have hE' : Ext (T.reverse.map negP) (negP v) := (ext_congr (fun x => by simp)).1 hE
  refine ext_up (asc_neg hT) (fun t ht => ?_) (fun dx dy q hq => ?_) (by rw [mem_neg, negP_neg]; simpa using hv) hE'
  · rw [mem_neg] at ht ⊢; exact hsub _ (by simpa using ht)
  · rw [mem_neg] at hq
    obtain ⟨t, ht, hl⟩ := hsup (-dx) (-dy) _ hq
    refine ⟨negP t, by rw [mem_neg, negP_neg]; simpa using ht, ?_⟩
    rw [lin_neg] at hl ⊢
    simpa [Int.neg_neg] using hl

theorem mem_hullP {l : List Pt} {v : Pt} : v ∈ hullP l ↔ v ∈ l ∧ (Ext l v ∨ Top l v) := by
  have hc : ∀ x, x ∈ insP l ↔ x ∈ l := fun x => mem_insP
  by_cases h2 : (insP l).length < 2
  · rw [hullP, hullA, if_pos h2, hc]
    constructor
    · intro hv
      refine ⟨hv, .inl fun a ha b hb h1 _ => ?_⟩
      rw [← hc] at hv ha
      match insP l, h2, hv, ha with
      | [x], _, hv, ha =>
        rw [List.mem_singleton.1 hv, List.mem_singleton.1 ha, ltP_irrefl] at h1; cases h1
      | [], _, hv, _ => simp at hv
    · exact fun h => h.1
  · rw [hullP, mem_hullA (asc_insP l) (by omega), mem_chain (asc_insP l), mem_high (asc_insP l), hc, ext_congr hc, top_congr hc]
    constructor
    · rintro (h | h)
      · exact ⟨h.1, .inl h.2⟩
      · exact ⟨h.1, .inr h.2⟩
    · rintro ⟨h, h' | h'⟩
      · exact .inl ⟨h, h'⟩
      · exact .inr ⟨h, h'⟩

theorem desc_unique {a b : List Pt} (ha : Desc a) (hb : Desc b) (h : ∀ x, x ∈ a ↔ x ∈ b) : a = b := by
  have : a.reverse = b.reverse := asc_unique (by unfold Asc; rw [List.pairwise_reverse]; exact ha) (by unfold Asc; rw [List.pairwise_reverse]; exact hb) (fun x => by simp [h x])
  simpa using this

/-- Lists whose strictly extreme points are the same have the same hull. -/
theorem hullP_eq {S T : List Pt} (hE : ∀ v, (v ∈ S ∧ Ext S v) ↔ (v ∈ T ∧ Ext T v)) (hT : ∀ v, (v ∈ S ∧ Top S v) ↔ (v ∈ T ∧ Top T v)) : hullP S = hullP T := by
  have cS : ∀ x, x ∈ insP S ↔ x ∈ S := fun x => mem_insP
  have cT : ∀ x, x ∈ insP T ↔ x ∈ T := fun x => mem_insP
  have e1 : chainP (insP S) = chainP (insP T) := asc_unique (asc_chain (asc_insP S)) (asc_chain (asc_insP T)) fun v => by
    rw [mem_chain (asc_insP S), mem_chain (asc_insP T), cS, cT, ext_congr cS, ext_congr cT, hE v]
  have e2 : highP (insP S) = highP (insP T) := desc_unique (desc_high (asc_insP S)) (desc_high (asc_insP T)) fun v => by
    rw [mem_high (asc_insP S), mem_high (asc_insP T), cS, cT, top_congr cS, top_congr cT, hT v]
  have small : ∀ {X Y : List Pt}, (∀ v, (v ∈ X ∧ Ext X v) → (v ∈ Y ∧ Ext Y v)) → 2 ≤ (insP X).length → 2 ≤ (insP Y).length := by
    intro X Y h hX
    have hA := asc_insP X
    obtain ⟨m, r, M, e⟩ := asc_ends hX
    rw [e] at hA
    have h1 := (head_mem_ext hA).1
    have h2 := (last_mem_ext (l := m :: r) (m := M) (by simpa using hA)).1
    rw [List.cons_append] at h2
    rw [← e] at h1 h2
    have cX : ∀ x, x ∈ insP X ↔ x ∈ X := fun x => mem_insP
    have k1 := (h m ⟨(cX m).1 (by rw [e]; simp), (ext_congr cX).1 h1⟩).1
    have k2 := (h M ⟨(cX M).1 (by rw [e]; simp), (ext_congr cX).1 h2⟩).1
    have hne : ltP m M = true := by
      unfold Asc at hA; rw [List.pairwise_cons] at hA; exact hA.1 M (by simp)
    exact nodup_len_le (a := [m, M]) (b := insP Y) (by simp [ltP_ne hne]) (by
      intro x hx
      rw [mem_insP]
      simp at hx
      rcases hx with rfl | rfl
      · exact k1
      · exact k2)
  by_cases hS : 2 ≤ (insP S).length
  · have hT2 := small (fun v => (hE v).1) hS
    rw [hullP, hullP, hullA, hullA, if_neg (by omega), if_neg (by omega), e1, e2]
  · have hT2 : ¬ 2 ≤ (insP T).length := fun h => hS (small (fun v => (hE v).2) h)
    rw [hullP, hullP, hullA, hullA, if_pos (by omega), if_pos (by omega)]
    have all : ∀ {X : List Pt}, ¬ 2 ≤ (insP X).length → ∀ v ∈ X, Ext X v := by
      intro X hX v hv a ha b hb h1 _
      exfalso
      have ha := mem_insP.2 ha
      have hv := mem_insP.2 hv
      match insP X, hX, ha, hv with
      | [x], _, ha, hv => rw [List.mem_singleton.1 hv, List.mem_singleton.1 ha, ltP_irrefl] at h1; cases h1
      | [], _, ha, hv => simp at hv
      | _ :: _ :: _, h, _, _ => simp at h
    refine asc_unique (asc_insP S) (asc_insP T) fun x => ?_
    rw [cS, cT]
    exact ⟨fun h => ((hE x).1 ⟨h, all hS x h⟩).1, fun h => ((hE x).2 ⟨h, all hT2 x h⟩).1⟩

/-- Points that are nowhere farther than some of them, among which the strictly extreme ones are. -/
theorem hullP_of_sup {S T : List Pt} (hsub : ∀ t ∈ T, t ∈ S) (hsup : ∀ dx dy, ∀ q ∈ S, ∃ t ∈ T, lin dx dy q ≤ lin dx dy t) (hall : ∀ v ∈ S, Ext S v ∨ Top S v → v ∈ T) : hullP T = hullP S := by
  have cT : ∀ x, x ∈ insP T ↔ x ∈ T := fun x => mem_insP
  have hsup' : ∀ dx dy, ∀ q ∈ S, ∃ t ∈ insP T, lin dx dy q ≤ lin dx dy t := fun dx dy q hq => by
    obtain ⟨t, ht, hl⟩ := hsup dx dy q hq
    exact ⟨t, (cT t).2 ht, hl⟩
  refine hullP_eq (fun v => ⟨fun h => ⟨hsub v h.1, ?_⟩, fun h => ⟨hall v h.1 (.inl h.2), ?_⟩⟩) (fun v => ⟨fun h => ⟨hsub v h.1, ?_⟩, fun h => ⟨hall v h.1 (.inr h.2), ?_⟩⟩)
  · exact ext_up (asc_insP T) (fun t ht => hsub t ((cT t).1 ht)) hsup' ((cT v).2 h.1) ((ext_congr cT).2 h.2)
  · exact fun a ha b hb => h.2 a (hsub a ha) b (hsub b hb)
  · exact top_up (asc_insP T) (fun t ht => hsub t ((cT t).1 ht)) hsup' ((cT v).2 h.1) ((top_congr cT).2 h.2)
  · exact fun a ha b hb => h.2 a (hsub a ha) b (hsub b hb)

/-- The hull of two hulls. -/
theorem hullP_sum (A B : List Pt) : hullP (hullP A ++ hullP B) = hullP (A ++ B) := by
  refine hullP_of_sup (fun t ht => ?_) (fun dx dy q hq => ?_) (fun v hv h => ?_)
  · rcases List.mem_append.1 ht with ht | ht
    · exact List.mem_append_left _ (mem_hullP_sub ht)
    · exact List.mem_append_right _ (mem_hullP_sub ht)
  · rcases List.mem_append.1 hq with hq | hq
    · obtain ⟨t, ht, hl⟩ := hullP_sup A dx dy hq
      exact ⟨t, List.mem_append_left _ ht, hl⟩
    · obtain ⟨t, ht, hl⟩ := hullP_sup B dx dy hq
      exact ⟨t, List.mem_append_right _ ht, hl⟩
  · rcases List.mem_append.1 hv with hv | hv
    · refine List.mem_append_left _ (mem_hullP.2 ⟨hv, ?_⟩)
      rcases h with h | h
      · exact .inl fun a ha b hb => h a (List.mem_append_left _ ha) b (List.mem_append_left _ hb)
      · exact .inr fun a ha b hb => h a (List.mem_append_left _ ha) b (List.mem_append_left _ hb)
    · refine List.mem_append_right _ (mem_hullP.2 ⟨hv, ?_⟩)
      rcases h with h | h
      · exact .inl fun a ha b hb => h a (List.mem_append_right _ ha) b (List.mem_append_right _ hb)
      · exact .inr fun a ha b hb => h a (List.mem_append_right _ ha) b (List.mem_append_right _ hb)
theorem hullP_idem (A : List Pt) : hullP (hullP A) = hullP A := by
  have := hullP_sum A []
  simpa [show hullP ([] : List Pt) = [] from rfl] using this

/-! distances -/
def sqd (a b : Pt) : Int := (a.1 - b.1) * (a.1 - b.1) + (a.2 - b.2) * (a.2 - b.2)
theorem sq_nonneg (x : Int) : 0 ≤ x * x := by
  rcases Int.le_total 0 x with h | h
  · exact Int.mul_nonneg h h
  · have := Int.mul_nonneg (a := -x) (b := -x) (by omega) (by omega); grind
theorem sqd_nonneg (a b : Pt) : 0 ≤ sqd a b := by
  have := sq_nonneg (a.1 - b.1); have := sq_nonneg (a.2 - b.2); unfold sqd; omega
theorem sqd_comm (a b : Pt) : sqd a b = sqd b a := by unfold sqd; grind
theorem sqd_eq_zero {a b : Pt} (h : sqd a b = 0) : a = b := by
  have h1 := sq_nonneg (a.1 - b.1); have h2 := sq_nonneg (a.2 - b.2)
  unfold sqd at h
  have h3 : (a.1 - b.1) * (a.1 - b.1) = 0 := by omega
  have h4 : (a.2 - b.2) * (a.2 - b.2) = 0 := by omega
  have k1 : a.1 - b.1 = 0 := by rcases Int.mul_eq_zero.1 h3 with h | h <;> exact h
  have k2 : a.2 - b.2 = 0 := by rcases Int.mul_eq_zero.1 h4 with h | h <;> exact h
  apply Prod.ext <;> omega

/-- For any point there is a vertex of the hull that is at least as far from p; if it is no farther, it is that point. -/
theorem hull_far (l : List Pt) {p q : Pt} (hq : q ∈ l) : ∃ v ∈ hullP l, sqd q p ≤ sqd v p ∧ (sqd v p = sqd q p → v = q) := by
  obtain ⟨v, hv, hl⟩ := hullP_sup l (q.1 - p.1) (q.2 - p.2) hq
  have h : sqd v p = sqd q p + 2 * (lin (q.1 - p.1) (q.2 - p.2) v - lin (q.1 - p.1) (q.2 - p.2) q) + sqd v q := by unfold sqd lin; grind
  have h0 := sqd_nonneg v q
  exact ⟨v, hv, by omega, fun e => sqd_eq_zero (by omega)⟩

end Go.Pl
