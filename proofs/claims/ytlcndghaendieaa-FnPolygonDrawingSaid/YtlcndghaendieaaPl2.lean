import Derived.Test.YtlcndghaendieaaPl1
/- Convex chains: plain facts on lists of points. -/
set_option linter.unusedVariables false
set_option linter.unusedSimpArgs false
namespace Go.Pl

def turn (a b c : Pt) : Int := (b.1 - a.1) * (c.2 - a.2) - (b.2 - a.2) * (c.1 - a.1)

/-- Points are struck from the end while they are not to the left. The last point comes first. -/
def popP : List Pt → Pt → List Pt
  | b :: a :: r, p => if turn a b p ≤ 0 then popP (a :: r) p else b :: a :: r
  | [b], _ => [b]
  | [], _ => []
def stepP (st : List Pt) (p : Pt) : List Pt := p :: popP st p
def chainR (l : List Pt) : List Pt := l.foldl stepP []
def chainP (l : List Pt) : List Pt := (chainR l).reverse

/-- Strictly below whatever lies on both sides. -/
def Ext (S : List Pt) (v : Pt) : Prop := ∀ a ∈ S, ∀ b ∈ S, ltP a v = true → ltP v b = true → 0 < turn a v b
def lin (dx dy : Int) (q : Pt) : Int := dx * q.1 + dy * q.2
def Desc (l : List Pt) : Prop := l.Pairwise fun a b => ltP b a = true

theorem ang {px py qx qy rx ry : Int} (hp : 0 < px ∨ (px = 0 ∧ 0 < py)) (hq : 0 < qx ∨ (qx = 0 ∧ 0 < qy)) (hr : 0 < rx ∨ (rx = 0 ∧ 0 < ry))
    (h1 : 0 ≤ px * qy - py * qx) (h2 : 0 < qx * ry - qy * rx) : 0 < px * ry - py * rx := by
  have id1 : qx * (px * ry - py * rx) = (px * qy - py * qx) * rx + (qx * ry - qy * rx) * px := by grind
  rcases hq with hq | ⟨rfl, hq⟩
  · have hpx : 0 < px := by
      rcases hp with hp | ⟨rfl, hp⟩
      · exact hp
      · have := Int.mul_pos hp hq
        grind
    have h3 : 0 ≤ (px * qy - py * qx) * rx := Int.mul_nonneg h1 (by omega)
    have h4 := Int.mul_pos h2 hpx
    have h5 : 0 < qx * (px * ry - py * rx) := by omega
    exact Int.pos_of_mul_pos_right h5 (by omega)
  · have h3 : 0 ≤ qy * rx := Int.mul_nonneg (by omega) (by omega)
    grind

theorem lt_pos {p q : Pt} (h : ltP p q = true) : 0 < q.1 - p.1 ∨ (q.1 - p.1 = 0 ∧ 0 < q.2 - p.2) := by
  rw [ltP_iff] at h; omega

/-- Left turns at u and v make a left turn from u past v. -/
theorem turn_far {u v w p : Pt} (h1 : ltP u v = true) (h2 : ltP v w = true) (h3 : ltP w p = true) (k1 : 0 < turn u v w) (k2 : 0 < turn v w p) : 0 < turn u v p := by
  have h := ang (lt_pos h1) (lt_pos h2) (lt_pos h3) (by unfold turn at k1; grind) (by unfold turn at k2; grind)
  unfold turn at *
  grind
/-- What lies above the edge u v sees a left turn at v where u does. -/
theorem turn_side {u v a p : Pt} (h1 : ltP u v = true) (h2 : ltP a v = true) (h3 : ltP v p = true) (k1 : 0 ≤ turn u v a) (k2 : 0 < turn u v p) : 0 < turn a v p := by
  have h := ang (lt_pos h2) (lt_pos h1) (lt_pos h3) (by unfold turn at k1; grind) (by unfold turn at k2; grind)
  unfold turn at *
  grind
theorem turn_cyc (a b c : Pt) : turn b c a = turn a b c := by unfold turn; grind

/-- A point that is not strictly below a segment is not farther down than both ends. -/
theorem lin_mid {a b p : Pt} (h1 : ltP a b = true) (h2 : ltP b p = true) (ht : turn a b p ≤ 0) {dx dy : Int} (hd : dy ≤ 0) : lin dx dy b ≤ lin dx dy a ∨ lin dx dy b ≤ lin dx dy p := by
  apply Classical.byContradiction
  intro hn
  have q1 : lin dx dy a < lin dx dy b := by omega
  have q2 : lin dx dy p < lin dx dy b := by omega
  have l1 := lt_pos h1
  have l2 := lt_pos h2
  have e : (p.1 - a.1) * lin dx dy b = (p.1 - b.1) * lin dx dy a + (b.1 - a.1) * lin dx dy p - dy * turn a b p := by unfold lin turn; grind
  have e1 : 0 ≤ dy * turn a b p := by
    have := Int.mul_nonneg (a := -dy) (b := - turn a b p) (by omega) (by omega)
    grind
  by_cases hx : p.1 - a.1 = 0
  · have e4 : lin dx dy b = lin dx dy a + dy * (b.2 - a.2) := by
      have : b.1 = a.1 := by omega
      unfold lin; grind
    have e5 : 0 ≤ (-dy) * (b.2 - a.2) := Int.mul_nonneg (by omega) (by omega)
    grind
  · have e2 : (p.1 - b.1) * lin dx dy a ≤ (p.1 - b.1) * (lin dx dy b - 1) := Int.mul_le_mul_of_nonneg_left (by omega) (by omega)
    have e3 : (b.1 - a.1) * lin dx dy p ≤ (b.1 - a.1) * (lin dx dy b - 1) := Int.mul_le_mul_of_nonneg_left (by omega) (by omega)
    grind

theorem popP_suffix : ∀ (st : List Pt) (p : Pt), popP st p <:+ st
  | b :: a :: r, p => by
    simp only [popP]
    split
    · exact (popP_suffix (a :: r) p).trans (List.suffix_cons _ _)
    · exact List.suffix_refl _
  | [b], p => by simp [popP]
  | [], p => by simp [popP]

/-- What is not struck. -/
theorem popP_top : ∀ (st : List Pt) (p : Pt) b a r, popP st p = b :: a :: r → 0 < turn a b p
  | b :: a :: r, p, b', a', r', h => by
    simp only [popP] at h
    split at h
    · exact popP_top (a :: r) p _ _ _ h
    · rename_i ht
      simp at h
      obtain ⟨rfl, rfl, rfl⟩ := h
      omega
  | [b], p, _, _, _, h => by simp [popP] at h
  | [], p, _, _, _, h => by simp [popP] at h

/-- What is struck has its reason. -/
theorem popP_out : ∀ (st : List Pt) (p v : Pt), Desc st → v ∈ st → v ∉ popP st p → ∃ a ∈ st, ltP a v = true ∧ turn a v p ≤ 0
  | b :: a :: r, p, v, hd, hv, hn => by
    unfold Desc at hd
    rw [List.pairwise_cons] at hd
    simp only [popP] at hn
    split at hn
    · rename_i ht
      rcases List.mem_cons.1 hv with rfl | hv
      · exact ⟨a, by simp, hd.1 a (by simp), ht⟩
      · obtain ⟨c, h1, h2⟩ := popP_out (a :: r) p v hd.2 hv hn
        exact ⟨c, List.mem_cons_of_mem _ h1, h2⟩
    · exact absurd hv hn
  | [b], p, v, hd, hv, hn => by simp [popP] at hn; exact absurd (by simpa using hv) hn
  | [], p, v, hd, hv, hn => by simp at hv

theorem popP_sup : ∀ (st : List Pt) (p : Pt) (dx dy : Int), dy ≤ 0 → Desc st → (∀ v ∈ st, ltP v p = true) → ∀ v ∈ st, ∃ z ∈ p :: popP st p, lin dx dy v ≤ lin dx dy z
  | b :: a :: r, p, dx, dy, hd, hs, hp, v, hv => by
    unfold Desc at hs
    rw [List.pairwise_cons] at hs
    simp only [popP]
    split
    · rename_i ht
      have ih := popP_sup (a :: r) p dx dy hd hs.2 (fun z hz => hp z (List.mem_cons_of_mem _ hz))
      rcases List.mem_cons.1 hv with rfl | hv
      · rcases lin_mid (hs.1 a (by simp)) (hp v (by simp)) ht hd (dx := dx) with h | h
        · obtain ⟨z, hz, hl⟩ := ih a (by simp)
          exact ⟨z, hz, by omega⟩
        · exact ⟨p, by simp, h⟩
      · exact ih v hv
    · exact ⟨v, List.mem_cons_of_mem _ hv, Int.le_refl _⟩
  | [b], p, dx, dy, _, _, _, v, hv => ⟨v, by simp [popP] at *; exact .inr hv, Int.le_refl _⟩
  | [], p, dx, dy, _, _, _, v, hv => by simp at hv

/-- A stack over the points S: in order; what is strictly extreme of S; S is nowhere farther down. -/
structure Stk (S st : List Pt) : Prop where
  desc : Desc st
  mem : ∀ v, v ∈ st ↔ v ∈ S ∧ Ext S v
  sup : ∀ dx dy, dy ≤ 0 → ∀ q ∈ S, ∃ v ∈ st, lin dx dy q ≤ lin dx dy v

/-- All left turns of a stack at a new point. -/
theorem turns_all {S : List Pt} : ∀ {st : List Pt} {p : Pt}, Desc st → (∀ v ∈ st, v ∈ S ∧ Ext S v) → (∀ v ∈ st, ltP v p = true) → (∀ b a r, st = b :: a :: r → 0 < turn a b p) →
    ∀ pre v u r, st = pre ++ v :: u :: r → 0 < turn u v p
  | [], p, _, _, _, _, pre, v, u, r, e => by simp at e
  | b :: st, p, hd, hm, hp, ht, [], v, u, r, e => by
    simp at e
    obtain ⟨rfl, rfl⟩ := e
    exact ht _ _ _ rfl
  | b :: st, p, hd, hm, hp, ht, c :: pre, v, u, r, e => by
    simp only [List.cons_append, List.cons.injEq] at e
    obtain ⟨rfl, e⟩ := e
    unfold Desc at hd
    rw [List.pairwise_cons] at hd
    refine turns_all hd.2 (fun v hv => hm v (List.mem_cons_of_mem _ hv)) (fun v hv => hp v (List.mem_cons_of_mem _ hv)) ?_ pre v u r e
    rintro a c r' rfl
    have hd2 := hd.2
    rw [List.pairwise_cons] at hd2
    have k1 : 0 < turn c a b := (hm a (by simp)).2 c (hm c (by simp)).1 b (hm b (by simp)).1 (hd2.1 c (by simp)) (hd.1 a (by simp))
    exact turn_far (hd2.1 c (by simp)) (hd.1 a (by simp)) (hp b (by simp)) k1 (ht _ _ _ rfl)

/-- Nothing of S is below an edge of the stack. -/
theorem edge_low {S st : List Pt} (h : Stk S st) {pre r : List Pt} {u v : Pt} (e : st = pre ++ v :: u :: r) : ∀ a ∈ S, 0 ≤ turn u v a := by
  intro a ha
  have hd := h.desc
  unfold Desc at hd
  rw [e, List.pairwise_append] at hd
  obtain ⟨d1, d2, d3⟩ := hd
  rw [List.pairwise_cons] at d2
  obtain ⟨d2, d4⟩ := d2
  rw [List.pairwise_cons] at d4
  have huv : ltP u v = true := d2 u (by simp)
  have hv := (h.mem v).1 (by rw [e]; simp)
  have hu := (h.mem u).1 (by rw [e]; simp)
  obtain ⟨z, hz, hl⟩ := h.sup (v.2 - u.2) (-(v.1 - u.1)) (by have := lt_pos huv; omega) a ha
  have key : 0 ≤ turn u v z := by
    rw [e] at hz
    rcases List.mem_append.1 hz with hz' | hz'
    · have h1 := d3 z hz' v (by simp)
      have := hv.2 u hu.1 z ((h.mem z).1 (by rw [e]; exact hz)).1 huv h1
      omega
    · rcases List.mem_cons.1 hz' with rfl | hz'
      · unfold turn; grind
      · rcases List.mem_cons.1 hz' with rfl | hz'
        · unfold turn; grind
        · have h1 := d4.1 z hz'
          have := hu.2 z ((h.mem z).1 (by rw [e]; exact hz)).1 v hv.1 h1 huv
          rw [← turn_cyc] at this
          omega
  have t1 : turn u v a = lin (v.2 - u.2) (-(v.1 - u.1)) u - lin (v.2 - u.2) (-(v.1 - u.1)) a := by unfold turn lin; grind
  have t2 : turn u v z = lin (v.2 - u.2) (-(v.1 - u.1)) u - lin (v.2 - u.2) (-(v.1 - u.1)) z := by unfold turn lin; grind
  omega

theorem desc_bottom {S st : List Pt} (hS : Asc S) (h : Stk S st) {pre : List Pt} {v : Pt} (e : st = pre ++ [v]) : ∀ a ∈ S, ltP a v = false := by
  intro a ha
  cases S with
  | nil => simp at ha
  | cons m S =>
    unfold Asc at hS
    rw [List.pairwise_cons] at hS
    have hm : m ∈ st := (h.mem m).2 ⟨by simp, fun x hx b hb h1 _ => by
      rcases List.mem_cons.1 hx with rfl | hx
      · rw [ltP_irrefl] at h1; cases h1
      · rw [ltP_asymm (hS.1 x hx)] at h1; cases h1⟩
    have hvm : ltP m v = false := by
      have hd := h.desc
      unfold Desc at hd
      rw [e, List.pairwise_append] at hd
      rw [e] at hm
      rcases List.mem_append.1 hm with hm | hm
      · exact ltP_asymm (hd.2.2 m hm v (by simp))
      · rw [List.mem_singleton.1 hm, ltP_irrefl]
    cases k : ltP a v with
    | false => rfl
    | true =>
      rcases List.mem_cons.1 ha with rfl | ha
      · rw [k] at hvm; cases hvm
      · rw [ltP_trans (hS.1 a ha) k] at hvm; cases hvm

theorem stk_step {S st : List Pt} {p : Pt} (hS : Asc S) (hp : ∀ q ∈ S, ltP q p = true) (h : Stk S st) : Stk (S ++ [p]) (stepP st p) := by
  have hsuf := popP_suffix st p
  have hsub : ∀ v ∈ popP st p, v ∈ st := fun v hv => hsuf.subset hv
  have hpst : ∀ v ∈ st, ltP v p = true := fun v hv => hp v ((h.mem v).1 hv).1
  have hdp : Desc (popP st p) := h.desc.sublist hsuf.sublist
  have hno : ∀ b ∈ S ++ [p], ltP p b = false := by
    intro b hb
    rcases List.mem_append.1 hb with hb | hb
    · exact ltP_asymm (hp b hb)
    · rw [List.mem_singleton.1 hb, ltP_irrefl]
  refine ⟨?_, fun v => ?_, fun dx dy hd q hq => ?_⟩
  · unfold stepP Desc
    rw [List.pairwise_cons]
    exact ⟨fun v hv => hpst v (hsub v hv), hdp⟩
  · unfold stepP
    constructor
    · intro hv
      rcases List.mem_cons.1 hv with rfl | hv
      · exact ⟨by simp, fun a ha b hb _ h2 => by rw [hno b hb] at h2; cases h2⟩
      · have hvS := (h.mem v).1 (hsub v hv)
        refine ⟨by simp [hvS.1], fun a ha b hb h1 h2 => ?_⟩
        have haS : a ∈ S := by
          rcases List.mem_append.1 ha with ha | ha
          · exact ha
          · rw [List.mem_singleton.1 ha, ltP_asymm (hp v hvS.1)] at h1; cases h1
        rcases List.mem_append.1 hb with hb | hb
        · exact hvS.2 a haS b hb h1 h2
        · obtain rfl := (List.mem_singleton.1 hb).symm
          obtain ⟨pre, r0, e0⟩ := List.append_of_mem hv
          cases r0 with
          | nil =>
            obtain ⟨t, ht⟩ := hsuf
            have := desc_bottom hS h (pre := t ++ pre) (v := v) (by rw [← ht, e0]; simp) a haS
            rw [this] at h1; cases h1
          | cons u r0 =>
            have ht := turns_all hdp (fun v hv => (h.mem v).1 (hsub v hv)) (fun v hv => hpst v (hsub v hv)) (fun b a r e => popP_top st p b a r e) pre v u r0 e0
            obtain ⟨t, hte⟩ := hsuf
            have he := edge_low h (pre := t ++ pre) (r := r0) (u := u) (v := v) (by rw [← hte, e0]; simp) a haS
            have huv : ltP u v = true := by
              have hd := hdp
              unfold Desc at hd
              rw [e0, List.pairwise_append, List.pairwise_cons] at hd
              exact hd.2.1.1 u (by simp)
            exact turn_side huv h1 h2 he ht
    · rintro ⟨hv, hE⟩
      rcases List.mem_append.1 hv with hv | hv
      · have hE' : Ext S v := fun a ha b hb => hE a (by simp [ha]) b (by simp [hb])
        have hst := (h.mem v).2 ⟨hv, hE'⟩
        apply Classical.byContradiction
        intro hn
        obtain ⟨a, ha, h1, h2⟩ := popP_out st p v h.desc hst (fun hh => hn (List.mem_cons_of_mem _ hh))
        have := hE a (by simp [((h.mem a).1 ha).1]) p (by simp) h1 (hp v hv)
        omega
      · rw [List.mem_singleton.1 hv]; simp
  · unfold stepP
    rcases List.mem_append.1 hq with hq | hq
    · obtain ⟨v, hv, hl⟩ := h.sup dx dy hd q hq
      obtain ⟨z, hz, hl'⟩ := popP_sup st p dx dy hd h.desc hpst v hv
      exact ⟨z, hz, by omega⟩
    · exact ⟨p, by simp, by rw [List.mem_singleton.1 hq]; exact Int.le_refl _⟩

theorem chain_fold : ∀ (l S st : List Pt), Asc (S ++ l) → Stk S st → Stk (S ++ l) (l.foldl stepP st)
  | [], S, st, _, h => by simpa using h
  | p :: l, S, st, ha, h => by
    have ha' : Asc ((S ++ [p]) ++ l) := by simpa using ha
    have hS : Asc S ∧ ∀ q ∈ S, ltP q p = true := by
      unfold Asc at ha
      rw [List.pairwise_append] at ha
      exact ⟨ha.1, fun q hq => ha.2.2 q hq p (by simp)⟩
    have := chain_fold l (S ++ [p]) (stepP st p) ha' (stk_step hS.1 hS.2 h)
    simpa using this

theorem chain_stk {l : List Pt} (h : Asc l) : Stk l (chainR l) := by
  have := chain_fold l [] [] (by simpa using h) ⟨by simp [Desc], by simp, by simp⟩
  simpa [chainR] using this

theorem asc_chain {l : List Pt} (h : Asc l) : Asc (chainP l) := by
  have := (chain_stk h).desc
  unfold Desc at this
  unfold Asc chainP
  rw [List.pairwise_reverse]
  exact this
theorem mem_chain {l : List Pt} (h : Asc l) {v : Pt} : v ∈ chainP l ↔ v ∈ l ∧ Ext l v := by
  unfold chainP
  rw [List.mem_reverse]
  exact (chain_stk h).mem v
theorem chain_sup {l : List Pt} (h : Asc l) {dx dy : Int} (hd : dy ≤ 0) {q : Pt} (hq : q ∈ l) : ∃ v ∈ chainP l, lin dx dy q ≤ lin dx dy v := by
  obtain ⟨v, hv, hl⟩ := (chain_stk h).sup dx dy hd q hq
  exact ⟨v, by simpa [chainP] using hv, hl⟩

end Go.Pl
