/- Plain mathematics (Pl1, Pl2, Pl3, Pl4, Pl5, Pl6, Pl7, Pl8, Pl9, Pl10, Pl11). -/
/- Points in order: plain facts on lists, with no program in sight. -/
set_option linter.unusedVariables false
set_option linter.unusedSimpArgs false
namespace Go.Pl

abbrev Pt := Int × Int

def ltP (p q : Pt) : Bool := decide (p.1 < q.1) || (p.1 == q.1 && decide (p.2 < q.2))

theorem ltP_iff {p q : Pt} : ltP p q = true ↔ p.1 < q.1 ∨ (p.1 = q.1 ∧ p.2 < q.2) := by simp [ltP]
theorem ltP_irrefl (p : Pt) : ltP p p = false := by simp [ltP]
theorem ltP_trans {p q r : Pt} (h : ltP p q = true) (k : ltP q r = true) : ltP p r = true := by
  rw [ltP_iff] at *; omega
theorem ltP_asymm {p q : Pt} (h : ltP p q = true) : ltP q p = false := by
  cases k : ltP q p with
  | false => rfl
  | true => rw [ltP_iff] at *; omega
theorem ltP_total {p q : Pt} (h : ltP p q = false) (k : ltP q p = false) : p = q := by
  have h' : ¬ (ltP p q = true) := by simp [h]
  have k' : ¬ (ltP q p = true) := by simp [k]
  rw [ltP_iff] at h' k'
  apply Prod.ext <;> omega
theorem ltP_ne {p q : Pt} (h : ltP p q = true) : p ≠ q := by
  rintro rfl; rw [ltP_irrefl] at h; cases h

/-- In order, each once. -/
def Asc (l : List Pt) : Prop := l.Pairwise fun a b => ltP a b = true

/-- A point is put into a list in order, once. -/
def addP : List Pt → Pt → List Pt
  | [], p => [p]
  | x :: l, p => if ltP x p then x :: addP l p else if x == p then x :: l else p :: x :: l
def insP (l : List Pt) : List Pt := l.foldl addP []

theorem mem_addP {l : List Pt} {p x : Pt} : x ∈ addP l p ↔ x = p ∨ x ∈ l := by
  induction l with
  | nil => simp [addP]
  | cons y l ih =>
    simp only [addP]
    split
    · simp only [List.mem_cons, ih]
      constructor
      · rintro (h | h | h) <;> simp [h]
      · rintro (h | h | h) <;> simp [h]
    · split
      · rename_i h
        have h : y = p := by simpa using h
        subst h
        simp
      · simp

theorem asc_addP {l : List Pt} {p : Pt} (h : Asc l) : Asc (addP l p) := by
  induction l with
  | nil => simp [addP, Asc]
  | cons y l ih =>
    have h0 := h
    unfold Asc at h
    rw [List.pairwise_cons] at h
    simp only [addP]
    split
    · rename_i hy
      unfold Asc
      rw [List.pairwise_cons]
      refine ⟨fun x hx => ?_, ih h.2⟩
      rcases mem_addP.1 hx with rfl | hx
      · exact hy
      · exact h.1 x hx
    · rename_i hy
      split
      · exact h0
      · rename_i hne
        have hlt : ltP p y = true := by
          cases k : ltP p y with
          | true => rfl
          | false => exact absurd (by simpa using ltP_total (by simpa using hy) k) hne
        unfold Asc
        rw [List.pairwise_cons]
        refine ⟨fun x hx => ?_, h0⟩
        rcases List.mem_cons.1 hx with rfl | hx
        · exact hlt
        · exact ltP_trans hlt (h.1 x hx)

theorem fold_add {l m : List Pt} (h : Asc m) : Asc (l.foldl addP m) ∧ ∀ x, x ∈ l.foldl addP m ↔ x ∈ m ∨ x ∈ l := by
  induction l generalizing m with
  | nil => exact ⟨h, by simp⟩
  | cons y l ih =>
    obtain ⟨h1, h2⟩ := ih (asc_addP (p := y) h)
    refine ⟨h1, fun x => ?_⟩
    rw [List.foldl_cons, h2 x, mem_addP]
    simp only [List.mem_cons]
    constructor
    · rintro ((h | h) | h) <;> simp [h]
    · rintro (h | h | h) <;> simp [h]
theorem asc_insP (l : List Pt) : Asc (insP l) := (fold_add (by simp [Asc])).1
theorem mem_insP {l : List Pt} {x : Pt} : x ∈ insP l ↔ x ∈ l := by
  rw [insP, (fold_add (l := l) (m := []) (by simp [Asc])).2 x]; simp

/-- Two lists in order with the same points are the same. -/
theorem asc_unique : ∀ {a b : List Pt}, Asc a → Asc b → (∀ x, x ∈ a ↔ x ∈ b) → a = b
  | [], [], _, _, _ => rfl
  | [], y :: b, _, _, h => absurd ((h y).2 (by simp)) (by simp)
  | x :: a, [], _, _, h => absurd ((h x).1 (by simp)) (by simp)
  | x :: a, y :: b, ha, hb, h => by
    unfold Asc at ha hb
    rw [List.pairwise_cons] at ha hb
    have hxy : x = y := by
      have h1 : x ∈ y :: b := (h x).1 (by simp)
      have h2 : y ∈ x :: a := (h y).2 (by simp)
      rcases List.mem_cons.1 h1 with e | h1
      · exact e
      · rcases List.mem_cons.1 h2 with e | h2
        · exact e.symm
        · have q1 := hb.1 x h1
          have q2 := ha.1 y h2
          rw [ltP_asymm q1] at q2
          cases q2
    subst hxy
    congr 1
    refine asc_unique ha.2 hb.2 fun z => ?_
    have hz := h z
    simp only [List.mem_cons] at hz
    constructor
    · intro hza
      rcases hz.1 (.inr hza) with rfl | k
      · exact absurd (ha.1 z hza) (by rw [ltP_irrefl]; simp)
      · exact k
    · intro hzb
      rcases hz.2 (.inr hzb) with rfl | k
      · exact absurd (hb.1 z hzb) (by rw [ltP_irrefl]; simp)
      · exact k

theorem insP_of_asc {l : List Pt} (h : Asc l) : insP l = l := asc_unique (asc_insP l) h fun _ => mem_insP
theorem insP_congr {l m : List Pt} (h : ∀ x, x ∈ l ↔ x ∈ m) : insP l = insP m :=
  asc_unique (asc_insP l) (asc_insP m) fun x => by rw [mem_insP, mem_insP, h x]

/-! the comparison -/
def cmpI (a b : Int) : Int := if a < b then -1 else if b < a then 1 else 0
/-- The first that is not zero. -/
def orI : List Int → Int
  | [] => 0
  | x :: l => if x = 0 then orI l else x
def cmpP (p q : Pt) : Int := orI [cmpI p.1 q.1, cmpI p.2 q.2]

theorem cmpP_neg (p q : Pt) : decide (cmpP p q < 0) = ltP p q := by
  rw [Bool.eq_iff_iff, decide_eq_true_iff, ltP_iff]
  rcases Int.lt_trichotomy p.1 q.1 with h | h | h
  · simp [cmpP, orI, cmpI, h]
  · rcases Int.lt_trichotomy p.2 q.2 with k | k | k
    · simp [cmpP, orI, cmpI, h, k]
    · simp [cmpP, orI, cmpI, h, k]
    · have k' : ¬ p.2 < q.2 := by omega
      simp [cmpP, orI, cmpI, h, k, k']
  · have h' : ¬ p.1 < q.1 := by omega
    simp [cmpP, orI, cmpI, h, h']
    omega

/-! a list without what repeats its forerunner -/
def cpF : Pt → List Pt → List Pt
  | _, [] => []
  | q, x :: l => if x == q then cpF x l else x :: cpF x l
def compactP : List Pt → List Pt
  | [] => []
  | x :: l => x :: cpF x l

def leP (p q : Pt) : Bool := !ltP q p
theorem leP_trans (a b c : Pt) (h : leP a b = true) (k : leP b c = true) : leP a c = true := by
  simp only [leP, Bool.not_eq_true'] at *
  cases hh : ltP c a with
  | false => rfl
  | true =>
    have h' : ¬ (ltP b a = true) := by simp [h]
    have k' : ¬ (ltP c b = true) := by simp [k]
    rw [ltP_iff] at *
    omega
theorem leP_total (a b : Pt) : (leP a b || leP b a) = true := by
  simp only [leP]
  cases h : ltP b a with
  | false => simp
  | true => simp [ltP_asymm h]

theorem cpF_spec : ∀ {l : List Pt} {q : Pt}, (q :: l).Pairwise (fun a b => leP a b = true) → Asc (q :: cpF q l) ∧ ∀ x, x ∈ q :: cpF q l ↔ x ∈ q :: l
  | [], q, _ => by simp [cpF, Asc]
  | y :: l, q, h => by
    have h0 := h
    rw [List.pairwise_cons] at h
    obtain ⟨h1, h2⟩ := cpF_spec h.2
    have hqy := h.1 y (by simp)
    simp only [cpF]
    split
    · rename_i e
      have e : y = q := by simpa using e
      subst e
      exact ⟨h1, fun x => by rw [h2 x]; simp⟩
    · rename_i e
      have hlt : ltP q y = true := by
        cases k : ltP q y with
        | true => rfl
        | false => exact absurd (by simpa using (ltP_total k (by simpa [leP] using hqy)).symm) e
      refine ⟨?_, fun x => ?_⟩
      · unfold Asc
        rw [List.pairwise_cons]
        refine ⟨fun x hx => ?_, h1⟩
        rcases List.mem_cons.1 hx with rfl | hx
        · exact hlt
        · unfold Asc at h1
          rw [List.pairwise_cons] at h1
          exact ltP_trans hlt (h1.1 x hx)
      · have := h2 x
        simp only [List.mem_cons] at this ⊢
        rw [this]
theorem compactP_spec {l : List Pt} (h : l.Pairwise (fun a b => leP a b = true)) : Asc (compactP l) ∧ ∀ x, x ∈ compactP l ↔ x ∈ l := by
  cases l with
  | nil => simp [compactP, Asc]
  | cons x l => exact cpF_spec h

/-- Sorting by the comparison and striking what repeats is inserting in order. -/
theorem compact_sort (l : List Pt) : compactP (l.mergeSort leP) = insP l := by
  obtain ⟨h1, h2⟩ := compactP_spec (List.pairwise_mergeSort leP_trans leP_total l)
  refine asc_unique h1 (asc_insP l) fun x => ?_
  rw [h2 x, mem_insP]
  exact (List.mergeSort_perm l leP).mem_iff

end Go.Pl
/- Convex chains: plain facts on lists of points. -/
set_option linter.unusedVariables false
set_option linter.unusedSimpArgs false
namespace Go.Pl

def turn (a b c : Pt) : Int := (b.1 - a.1) * (c.2 - a.2) - (b.2 - a.2) * (c.1 - a.1)

/-- Points are struck from the end while they are not to the left. The last point comes first. -/
def popP : List Pt → Pt → List Pt
  | b :: a :: r, p => if turn a b p ≤ 0 then popP (a :: r) p else b :: a :: r
  | [b], _ => [b]
  | [], _ => []
def stepP (st : List Pt) (p : Pt) : List Pt := p :: popP st p
def chainR (l : List Pt) : List Pt := l.foldl stepP []
def chainP (l : List Pt) : List Pt := (chainR l).reverse

/-- Strictly below whatever lies on both sides. -/
def Ext (S : List Pt) (v : Pt) : Prop := ∀ a ∈ S, ∀ b ∈ S, ltP a v = true → ltP v b = true → 0 < turn a v b
def lin (dx dy : Int) (q : Pt) : Int := dx * q.1 + dy * q.2
def Desc (l : List Pt) : Prop := l.Pairwise fun a b => ltP b a = true

theorem ang {px py qx qy rx ry : Int} (hp : 0 < px ∨ (px = 0 ∧ 0 < py)) (hq : 0 < qx ∨ (qx = 0 ∧ 0 < qy)) (hr : 0 < rx ∨ (rx = 0 ∧ 0 < ry))
    (h1 : 0 ≤ px * qy - py * qx) (h2 : 0 < qx * ry - qy * rx) : 0 < px * ry - py * rx := by
  have id1 : qx * (px * ry - py * rx) = (px * qy - py * qx) * rx + (qx * ry - qy * rx) * px := by grind
  rcases hq with hq | ⟨rfl, hq⟩
  · have hpx : 0 < px := by
      rcases hp with hp | ⟨rfl, hp⟩
      · exact hp
      · have := Int.mul_pos hp hq
        grind
    have h3 : 0 ≤ (px * qy - py * qx) * rx := Int.mul_nonneg h1 (by omega)
    have h4 := Int.mul_pos h2 hpx
    have h5 : 0 < qx * (px * ry - py * rx) := by omega
    exact Int.pos_of_mul_pos_right h5 (by omega)
  · have h3 : 0 ≤ qy * rx := Int.mul_nonneg (by omega) (by omega)
    grind

theorem lt_pos {p q : Pt} (h : ltP p q = true) : 0 < q.1 - p.1 ∨ (q.1 - p.1 = 0 ∧ 0 < q.2 - p.2) := by
  rw [ltP_iff] at h; omega

/-- Left turns at u and v make a left turn from u past v. -/
theorem turn_far {u v w p : Pt} (h1 : ltP u v = true) (h2 : ltP v w = true) (h3 : ltP w p = true) (k1 : 0 < turn u v w) (k2 : 0 < turn v w p) : 0 < turn u v p := by
  have h := ang (lt_pos h1) (lt_pos h2) (lt_pos h3) (by unfold turn at k1; grind) (by unfold turn at k2; grind)
  unfold turn at *
  grind
/-- What lies above the edge u v sees a left turn at v where u does. -/
theorem turn_side {u v a p : Pt} (h1 : ltP u v = true) (h2 : ltP a v = true) (h3 : ltP v p = true) (k1 : 0 ≤ turn u v a) (k2 : 0 < turn u v p) : 0 < turn a v p := by
  have h := ang (lt_pos h2) (lt_pos h1) (lt_pos h3) (by unfold turn at k1; grind) (by unfold turn at k2; grind)
  unfold turn at *
  grind
theorem turn_cyc (a b c : Pt) : turn b c a = turn a b c := by unfold turn; grind

/-- A point that is not strictly below a segment is not farther down than both ends. -/
theorem lin_mid {a b p : Pt} (h1 : ltP a b = true) (h2 : ltP b p = true) (ht : turn a b p ≤ 0) {dx dy : Int} (hd : dy ≤ 0) : lin dx dy b ≤ lin dx dy a ∨ lin dx dy b ≤ lin dx dy p := by
  apply Classical.byContradiction
  intro hn
  have q1 : lin dx dy a < lin dx dy b := by omega
  have q2 : lin dx dy p < lin dx dy b := by omega
  have l1 := lt_pos h1
  have l2 := lt_pos h2
  have e : (p.1 - a.1) * lin dx dy b = (p.1 - b.1) * lin dx dy a + (b.1 - a.1) * lin dx dy p - dy * turn a b p := by unfold lin turn; grind
  have e1 : 0 ≤ dy * turn a b p := by
    have := Int.mul_nonneg (a := -dy) (b := - turn a b p) (by omega) (by omega)
    grind
  by_cases hx : p.1 - a.1 = 0
  · have e4 : lin dx dy b = lin dx dy a + dy * (b.2 - a.2) := by
      have : b.1 = a.1 := by omega
      unfold lin; grind
    have e5 : 0 ≤ (-dy) * (b.2 - a.2) := Int.mul_nonneg (by omega) (by omega)
    grind
  · have e2 : (p.1 - b.1) * lin dx dy a ≤ (p.1 - b.1) * (lin dx dy b - 1) := Int.mul_le_mul_of_nonneg_left (by omega) (by omega)
    have e3 : (b.1 - a.1) * lin dx dy p ≤ (b.1 - a.1) * (lin dx dy b - 1) := Int.mul_le_mul_of_nonneg_left (by omega) (by omega)
    grind

theorem popP_suffix : ∀ (st : List Pt) (p : Pt), popP st p <:+ st
  | b :: a :: r, p => by
    simp only [popP]
    split
    · exact (popP_suffix (a :: r) p).trans (List.suffix_cons _ _)
    · exact List.suffix_refl _
  | [b], p => by simp [popP]
  | [], p => by simp [popP]

/-- What is not struck. -/
theorem popP_top : ∀ (st : List Pt) (p : Pt) b a r, popP st p = b :: a :: r → 0 < turn a b p
  | b :: a :: r, p, b', a', r', h => by
    simp only [popP] at h
    split at h
    · exact popP_top (a :: r) p _ _ _ h
    · rename_i ht
      simp at h
      obtain ⟨rfl, rfl, rfl⟩ := h
      omega
  | [b], p, _, _, _, h => by simp [popP] at h
  | [], p, _, _, _, h => by simp [popP] at h

/-- What is struck has its reason. -/
theorem popP_out : ∀ (st : List Pt) (p v : Pt), Desc st → v ∈ st → v ∉ popP st p → ∃ a ∈ st, ltP a v = true ∧ turn a v p ≤ 0
  | b :: a :: r, p, v, hd, hv, hn => by
    unfold Desc at hd
    rw [List.pairwise_cons] at hd
    simp only [popP] at hn
    split at hn
    · rename_i ht
      rcases List.mem_cons.1 hv with rfl | hv
      · exact ⟨a, by simp, hd.1 a (by simp), ht⟩
      · obtain ⟨c, h1, h2⟩ := popP_out (a :: r) p v hd.2 hv hn
        exact ⟨c, List.mem_cons_of_mem _ h1, h2⟩
    · exact absurd hv hn
  | [b], p, v, hd, hv, hn => by simp [popP] at hn; exact absurd (by simpa using hv) hn
  | [], p, v, hd, hv, hn => by simp at hv

theorem popP_sup : ∀ (st : List Pt) (p : Pt) (dx dy : Int), dy ≤ 0 → Desc st → (∀ v ∈ st, ltP v p = true) → ∀ v ∈ st, ∃ z ∈ p :: popP st p, lin dx dy v ≤ lin dx dy z
  | b :: a :: r, p, dx, dy, hd, hs, hp, v, hv => by
    unfold Desc at hs
    rw [List.pairwise_cons] at hs
    simp only [popP]
    split
    · rename_i ht
      have ih := popP_sup (a :: r) p dx dy hd hs.2 (fun z hz => hp z (List.mem_cons_of_mem _ hz))
      rcases List.mem_cons.1 hv with rfl | hv
      · rcases lin_mid (hs.1 a (by simp)) (hp v (by simp)) ht hd (dx := dx) with h | h
        · obtain ⟨z, hz, hl⟩ := ih a (by simp)
          exact ⟨z, hz, by omega⟩
        · exact ⟨p, by simp, h⟩
      · exact ih v hv
    · exact ⟨v, List.mem_cons_of_mem _ hv, Int.le_refl _⟩
  | [b], p, dx, dy, _, _, _, v, hv => ⟨v, by simp [popP] at *; exact .inr hv, Int.le_refl _⟩
  | [], p, dx, dy, _, _, _, v, hv => by simp at hv

/-- A stack over the points S: in order; what is strictly extreme of S; S is nowhere farther down. -/
structure Stk (S st : List Pt) : Prop where
  desc : Desc st
  mem : ∀ v, v ∈ st ↔ v ∈ S ∧ Ext S v
  sup : ∀ dx dy, dy ≤ 0 → ∀ q ∈ S, ∃ v ∈ st, lin dx dy q ≤ lin dx dy v

/-- All left turns of a stack at a new point. -/
theorem turns_all {S : List Pt} : ∀ {st : List Pt} {p : Pt}, Desc st → (∀ v ∈ st, v ∈ S ∧ Ext S v) → (∀ v ∈ st, ltP v p = true) → (∀ b a r, st = b :: a :: r → 0 < turn a b p) →
    ∀ pre v u r, st = pre ++ v :: u :: r → 0 < turn u v p
  | [], p, _, _, _, _, pre, v, u, r, e => by simp at e
  | b :: st, p, hd, hm, hp, ht, [], v, u, r, e => by
    simp at e
    obtain ⟨rfl, rfl⟩ := e
    exact ht _ _ _ rfl
  | b :: st, p, hd, hm, hp, ht, c :: pre, v, u, r, e => by
    simp only [List.cons_append, List.cons.injEq] at e
    obtain ⟨rfl, e⟩ := e
    unfold Desc at hd
    rw [List.pairwise_cons] at hd
    refine turns_all hd.2 (fun v hv => hm v (List.mem_cons_of_mem _ hv)) (fun v hv => hp v (List.mem_cons_of_mem _ hv)) ?_ pre v u r e
    rintro a c r' rfl
    have hd2 := hd.2
    rw [List.pairwise_cons] at hd2
    have k1 : 0 < turn c a b := (hm a (by simp)).2 c (hm c (by simp)).1 b (hm b (by simp)).1 (hd2.1 c (by simp)) (hd.1 a (by simp))
    exact turn_far (hd2.1 c (by simp)) (hd.1 a (by simp)) (hp b (by simp)) k1 (ht _ _ _ rfl)

/-- Nothing of S is below an edge of the stack. -/
theorem edge_low {S st : List Pt} (h : Stk S st) {pre r : List Pt} {u v : Pt} (e : st = pre ++ v :: u :: r) : ∀ a ∈ S, 0 ≤ turn u v a := by
  intro a ha
  have hd := h.desc
  unfold Desc at hd
  rw [e, List.pairwise_append] at hd
  obtain ⟨d1, d2, d3⟩ := hd
  rw [List.pairwise_cons] at d2
  obtain ⟨d2, d4⟩ := d2
  rw [List.pairwise_cons] at d4
  have huv : ltP u v = true := d2 u (by simp)
  have hv := (h.mem v).1 (by rw [e]; simp)
  have hu := (h.mem u).1 (by rw [e]; simp)
  obtain ⟨z, hz, hl⟩ := h.sup (v.2 - u.2) (-(v.1 - u.1)) (by have := lt_pos huv; omega) a ha
  have key : 0 ≤ turn u v z := by
    rw [e] at hz
    rcases List.mem_append.1 hz with hz' | hz'
    · have h1 := d3 z hz' v (by simp)
      have := hv.2 u hu.1 z ((h.mem z).1 (by rw [e]; exact hz)).1 huv h1
      omega
    · rcases List.mem_cons.1 hz' with rfl | hz'
      · unfold turn; grind
      · rcases List.mem_cons.1 hz' with rfl | hz'
        · unfold turn; grind
        · have h1 := d4.1 z hz'
          have := hu.2 z ((h.mem z).1 (by rw [e]; exact hz)).1 v hv.1 h1 huv
          rw [← turn_cyc] at this
          omega
  have t1 : turn u v a = lin (v.2 - u.2) (-(v.1 - u.1)) u - lin (v.2 - u.2) (-(v.1 - u.1)) a := by unfold turn lin; grind
  have t2 : turn u v z = lin (v.2 - u.2) (-(v.1 - u.1)) u - lin (v.2 - u.2) (-(v.1 - u.1)) z := by unfold turn lin; grind
  omega

theorem desc_bottom {S st : List Pt} (hS : Asc S) (h : Stk S st) {pre : List Pt} {v : Pt} (e : st = pre ++ [v]) : ∀ a ∈ S, ltP a v = false := by
  intro a ha
  cases S with
  | nil => simp at ha
  | cons m S =>
    unfold Asc at hS
    rw [List.pairwise_cons] at hS
    have hm : m ∈ st := (h.mem m).2 ⟨by simp, fun x hx b hb h1 _ => by
      rcases List.mem_cons.1 hx with rfl | hx
      · rw [ltP_irrefl] at h1; cases h1
      · rw [ltP_asymm (hS.1 x hx)] at h1; cases h1⟩
    have hvm : ltP m v = false := by
      have hd := h.desc
      unfold Desc at hd
      rw [e, List.pairwise_append] at hd
      rw [e] at hm
      rcases List.mem_append.1 hm with hm | hm
      · exact ltP_asymm (hd.2.2 m hm v (by simp))
      · rw [List.mem_singleton.1 hm, ltP_irrefl]
    cases k : ltP a v with
    | false => rfl
    | true =>
      rcases List.mem_cons.1 ha with rfl | ha
      · rw [k] at hvm; cases hvm
      · rw [ltP_trans (hS.1 a ha) k] at hvm; cases hvm

theorem stk_step {S st : List Pt} {p : Pt} (hS : Asc S) (hp : ∀ q ∈ S, ltP q p = true) (h : Stk S st) : Stk (S ++ [p]) (stepP st p) := by
  have hsuf := popP_suffix st p
  have hsub : ∀ v ∈ popP st p, v ∈ st := fun v hv => hsuf.subset hv
  have hpst : ∀ v ∈ st, ltP v p = true := fun v hv => hp v ((h.mem v).1 hv).1
  have hdp : Desc (popP st p) := h.desc.sublist hsuf.sublist
  have hno : ∀ b ∈ S ++ [p], ltP p b = false := by
    intro b hb
    rcases List.mem_append.1 hb with hb | hb
    · exact ltP_asymm (hp b hb)
    · rw [List.mem_singleton.1 hb, ltP_irrefl]
  refine ⟨?_, fun v => ?_, fun dx dy hd q hq => ?_⟩
  · unfold stepP Desc
    rw [List.pairwise_cons]
    exact ⟨fun v hv => hpst v (hsub v hv), hdp⟩
  · unfold stepP
    constructor
    · intro hv
      rcases List.mem_cons.1 hv with rfl | hv
      · exact ⟨by simp, fun a ha b hb _ h2 => by rw [hno b hb] at h2; cases h2⟩
      · have hvS := (h.mem v).1 (hsub v hv)
        refine ⟨by simp [hvS.1], fun a ha b hb h1 h2 => ?_⟩
        have haS : a ∈ S := by
          rcases List.mem_append.1 ha with ha | ha
          · exact ha
          · rw [List.mem_singleton.1 ha, ltP_asymm (hp v hvS.1)] at h1; cases h1
        rcases List.mem_append.1 hb with hb | hb
        · exact hvS.2 a haS b hb h1 h2
        · obtain rfl := (List.mem_singleton.1 hb).symm
          obtain ⟨pre, r0, e0⟩ := List.append_of_mem hv
          cases r0 with
          | nil =>
            obtain ⟨t, ht⟩ := hsuf
            have := desc_bottom hS h (pre := t ++ pre) (v := v) (by rw [← ht, e0]; simp) a haS
            rw [this] at h1; cases h1
          | cons u r0 =>
            have ht := turns_all hdp (fun v hv => (h.mem v).1 (hsub v hv)) (fun v hv => hpst v (hsub v hv)) (fun b a r e => popP_top st p b a r e) pre v u r0 e0
            obtain ⟨t, hte⟩ := hsuf
            have he := edge_low h (pre := t ++ pre) (r := r0) (u := u) (v := v) (by rw [← hte, e0]; simp) a haS
            have huv : ltP u v = true := by
              have hd := hdp
              unfold Desc at hd
              rw [e0, List.pairwise_append, List.pairwise_cons] at hd
              exact hd.2.1.1 u (by simp)
            exact turn_side huv h1 h2 he ht
    · rintro ⟨hv, hE⟩
      rcases List.mem_append.1 hv with hv | hv
      · have hE' : Ext S v := fun a ha b hb => hE a (by simp [ha]) b (by simp [hb])
        have hst := (h.mem v).2 ⟨hv, hE'⟩
        apply Classical.byContradiction
        intro hn
        obtain ⟨a, ha, h1, h2⟩ := popP_out st p v h.desc hst (fun hh => hn (List.mem_cons_of_mem _ hh))
        have := hE a (by simp [((h.mem a).1 ha).1]) p (by simp) h1 (hp v hv)
        omega
      · rw [List.mem_singleton.1 hv]; simp
  · unfold stepP
    rcases List.mem_append.1 hq with hq | hq
    · obtain ⟨v, hv, hl⟩ := h.sup dx dy hd q hq
      obtain ⟨z, hz, hl'⟩ := popP_sup st p dx dy hd h.desc hpst v hv
      exact ⟨z, hz, by omega⟩
    · exact ⟨p, by simp, by rw [List.mem_singleton.1 hq]; exact Int.le_refl _⟩

theorem chain_fold : ∀ (l S st : List Pt), Asc (S ++ l) → Stk S st → Stk (S ++ l) (l.foldl stepP st)
  | [], S, st, _, h => by simpa using h
  | p :: l, S, st, ha, h => by
    have ha' : Asc ((S ++ [p]) ++ l) := by simpa using ha
    have hS : Asc S ∧ ∀ q ∈ S, ltP q p = true := by
      unfold Asc at ha
      rw [List.pairwise_append] at ha
      exact ⟨ha.1, fun q hq => ha.2.2 q hq p (by simp)⟩
    have := chain_fold l (S ++ [p]) (stepP st p) ha' (stk_step hS.1 hS.2 h)
    simpa using this

theorem chain_stk {l : List Pt} (h : Asc l) : Stk l (chainR l) := by
  have := chain_fold l [] [] (by simpa using h) ⟨by simp [Desc], by simp, by simp⟩
  simpa [chainR] using this

theorem asc_chain {l : List Pt} (h : Asc l) : Asc (chainP l) := by
  have := (chain_stk h).desc
  unfold Desc at this
  unfold Asc chainP
  rw [List.pairwise_reverse]
  exact this
theorem mem_chain {l : List Pt} (h : Asc l) {v : Pt} : v ∈ chainP l ↔ v ∈ l ∧ Ext l v := by
  unfold chainP
  rw [List.mem_reverse]
  exact (chain_stk h).mem v
theorem chain_sup {l : List Pt} (h : Asc l) {dx dy : Int} (hd : dy ≤ 0) {q : Pt} (hq : q ∈ l) : ∃ v ∈ chainP l, lin dx dy q ≤ lin dx dy v := by
  obtain ⟨v, hv, hl⟩ := (chain_stk h).sup dx dy hd q hq
  exact ⟨v, by simpa [chainP] using hv, hl⟩

end Go.Pl
/- Hulls of points: plain facts. -/
set_option linter.unusedVariables false
set_option linter.unusedSimpArgs false
namespace Go.Pl

def negP (p : Pt) : Pt := (-p.1, -p.2)
theorem negP_neg (p : Pt) : negP (negP p) = p := by simp [negP]
theorem ltP_neg (p q : Pt) : ltP (negP p) (negP q) = ltP q p := by
  rw [Bool.eq_iff_iff, ltP_iff, ltP_iff]; simp only [negP]; omega
theorem turn_neg (a b c : Pt) : turn (negP a) (negP b) (negP c) = turn a b c := by unfold turn negP; grind
theorem lin_neg (dx dy : Int) (q : Pt) : lin dx dy (negP q) = lin (-dx) (-dy) q := by unfold lin negP; grind

theorem popP_neg : ∀ (st : List Pt) (p : Pt), popP (st.map negP) (negP p) = (popP st p).map negP
  | b :: a :: r, p => by
    have ih := popP_neg (a :: r) p
    simp only [List.map_cons] at ih
    simp only [List.map_cons, popP, turn_neg]
    split
    · exact ih
    · simp
  | [b], p => by simp [popP]
  | [], p => by simp [popP]
theorem fold_neg : ∀ (l st : List Pt), (l.map negP).foldl stepP (st.map negP) = (l.foldl stepP st).map negP
  | [], st => by simp
  | p :: l, st => by
    have := fold_neg l (stepP st p)
    simp only [List.map_cons, List.foldl_cons]
    rw [← this]
    congr 1
    simp [stepP, popP_neg]
theorem chain_neg (l : List Pt) : chainP (l.map negP) = (chainP l).map negP := by
  have := fold_neg l []
  simp only [List.map_nil] at this
  simp [chainP, chainR, this, List.map_reverse]
theorem map_neg_neg (l : List Pt) : (l.map negP).map negP = l := by
  simp [List.map_map, Function.comp_def, negP_neg]
theorem asc_neg {l : List Pt} (h : Asc l) : Asc (l.reverse.map negP) := by
  unfold Asc at *
  rw [List.pairwise_map, List.pairwise_reverse]
  exact h.imp fun hab => by rw [ltP_neg]; exact hab

/-- The chain back, from the last point to the first. -/
def highP (l : List Pt) : List Pt := chainP l.reverse
theorem highP_eq (l : List Pt) : highP l = (chainP (l.reverse.map negP)).map negP := by rw [chain_neg, map_neg_neg]; rfl
/-- Strictly above whatever lies on both sides. -/
def Top (S : List Pt) (v : Pt) : Prop := ∀ a ∈ S, ∀ b ∈ S, ltP a v = true → ltP v b = true → turn a v b < 0

theorem mem_neg {l : List Pt} {v : Pt} : v ∈ l.map negP ↔ negP v ∈ l := by
  rw [List.mem_map]
  constructor
  · rintro ⟨x, hx, rfl⟩; rwa [negP_neg]
  · intro h; exact ⟨_, h, negP_neg v⟩
theorem mem_high {l : List Pt} (h : Asc l) {v : Pt} : v ∈ highP l ↔ v ∈ l ∧ Top l v := by
  rw [highP_eq, mem_neg, mem_chain (asc_neg h), mem_neg, List.mem_reverse, negP_neg]
  refine and_congr_right fun hv => ?_
  constructor
  · intro hE a ha b hb h1 h2
    have := hE (negP b) (by rw [mem_neg, negP_neg]; simpa using hb) (negP a) (by rw [mem_neg, negP_neg]; simpa using ha) (by rw [ltP_neg]; exact h2) (by rw [ltP_neg]; exact h1)
    rw [turn_neg] at this
    have e : turn b v a = - turn a v b := by unfold turn; grind
    omega
  · intro hT a ha b hb h1 h2
    rw [mem_neg, List.mem_reverse] at ha hb
    have := hT (negP b) hb (negP a) ha (by rw [← negP_neg v, ltP_neg]; exact h2) (by rw [← negP_neg v, ltP_neg]; exact h1)
    have e : turn a (negP v) b = - turn (negP b) v (negP a) := by unfold turn negP; grind
    omega
theorem high_sup {l : List Pt} (h : Asc l) {dx dy : Int} (hd : 0 ≤ dy) {q : Pt} (hq : q ∈ l) : ∃ v ∈ highP l, lin dx dy q ≤ lin dx dy v := by
  obtain ⟨v, hv, hl⟩ := chain_sup (asc_neg h) (dx := -dx) (dy := -dy) (by omega) (q := negP q) (by rw [mem_neg, negP_neg]; simpa using hq)
  refine ⟨negP v, by rw [highP_eq, mem_neg, negP_neg]; exact hv, ?_⟩
  rw [lin_neg] at hl ⊢
  simpa [Int.neg_neg] using hl
theorem desc_high {l : List Pt} (h : Asc l) : Desc (highP l) := by
  have := asc_chain (asc_neg h)
  rw [highP_eq]
  unfold Asc at this
  unfold Desc
  rw [List.pairwise_map]
  exact this.imp fun hab => by rw [ltP_neg]; exact hab

/-! the ends of chains -/
theorem foldl_step_ne {l st : List Pt} (h : l ≠ [] ∨ st ≠ []) : l.foldl stepP st ≠ [] := by
  induction l generalizing st with
  | nil => rcases h with h | h
           · exact absurd rfl h
           · simpa using h
  | cons p l ih => exact ih (.inr (by simp [stepP]))
theorem chainP_ne {l : List Pt} (h : l ≠ []) : chainP l ≠ [] := by
  unfold chainP chainR
  simpa using foldl_step_ne (.inl h)
theorem chain_last (l : List Pt) (p : Pt) : (chainP (l ++ [p])).getLast? = some p := by
  simp [chainP, chainR, stepP]

/-- The vertices of the hull of points in order, each once. -/
def hullA (l : List Pt) : List Pt := if l.length < 2 then l else (chainP l).dropLast ++ (highP l).dropLast
def hullP (l : List Pt) : List Pt := hullA (insP l)

/-- The least point is first in the chain, the last one last. -/
theorem head_mem_ext {m : Pt} {l : List Pt} (h : Asc (m :: l)) : Ext (m :: l) m ∧ Top (m :: l) m := by
  unfold Asc at h
  rw [List.pairwise_cons] at h
  have hn : ∀ a ∈ m :: l, ltP a m = true → False := by
    intro a ha h1
    rcases List.mem_cons.1 ha with rfl | ha
    · rw [ltP_irrefl] at h1; cases h1
    · rw [ltP_asymm (h.1 a ha)] at h1; cases h1
  exact ⟨fun a ha b hb h1 _ => (hn a ha h1).elim, fun a ha b hb h1 _ => (hn a ha h1).elim⟩
theorem last_mem_ext {m : Pt} {l : List Pt} (h : Asc (l ++ [m])) : Ext (l ++ [m]) m ∧ Top (l ++ [m]) m := by
  unfold Asc at h
  rw [List.pairwise_append] at h
  have hn : ∀ b ∈ l ++ [m], ltP m b = true → False := by
    intro b hb h1
    rcases List.mem_append.1 hb with hb | hb
    · rw [ltP_asymm (h.2.2 b hb m (by simp))] at h1; cases h1
    · rw [List.mem_singleton.1 hb, ltP_irrefl] at h1; cases h1
  exact ⟨fun a ha b hb _ h2 => (hn b hb h2).elim, fun a ha b hb _ h2 => (hn b hb h2).elim⟩

theorem mem_dropLast_of_ne {l : List Pt} {p v : Pt} (h : l.getLast? = some p) (hv : v ∈ l) (hne : v ≠ p) : v ∈ l.dropLast := by
  have hl : l ≠ [] := by rintro rfl; simp at hv
  have e := List.dropLast_concat_getLast hl
  rw [List.getLast?_eq_some_getLast hl] at h
  injection h with h
  rw [← e] at hv
  rcases List.mem_append.1 hv with hv | hv
  · exact hv
  · rw [List.mem_singleton.1 hv, h] at hne; exact absurd rfl hne

theorem asc_ends {l : List Pt} (h2 : 2 ≤ l.length) : ∃ m r M, l = m :: (r ++ [M]) := by
  match l, h2 with
  | m :: x :: t, _ => exact ⟨m, (x :: t).dropLast, (x :: t).getLast (by simp), by rw [List.dropLast_concat_getLast]⟩

/-- The points of the hull: those that are strictly extreme downwards or upwards. -/
theorem mem_hullA {l : List Pt} (h : Asc l) (h2 : 2 ≤ l.length) {v : Pt} : v ∈ hullA l ↔ v ∈ chainP l ∨ v ∈ highP l := by
  obtain ⟨m, r, M, rfl⟩ := asc_ends h2
  have h' : Asc ((m :: r) ++ [M]) := by simpa using h
  have hmM : ltP m M = true := by
    unfold Asc at h; rw [List.pairwise_cons] at h; exact h.1 M (by simp)
  have hlast : (chainP (m :: (r ++ [M]))).getLast? = some M := by simpa using chain_last (m :: r) M
  have hlast2 : (highP (m :: (r ++ [M]))).getLast? = some m := by simpa [highP] using chain_last (M :: r.reverse) m
  have hm := head_mem_ext h
  have hM := last_mem_ext h'
  rw [List.cons_append] at hM
  rw [hullA, if_neg (by simp), List.mem_append]
  constructor
  · rintro (hv | hv)
    · exact .inl (List.dropLast_subset _ hv)
    · exact .inr (List.dropLast_subset _ hv)
  · rintro (hv | hv)
    · by_cases e : v = M
      · subst e
        exact .inr (mem_dropLast_of_ne hlast2 ((mem_high h).2 ⟨by simp, hM.2⟩) (ltP_ne hmM).symm)
      · exact .inl (mem_dropLast_of_ne hlast hv e)
    · by_cases e : v = m
      · subst e
        exact .inl (mem_dropLast_of_ne hlast ((mem_chain h).2 ⟨by simp, hm.1⟩) (ltP_ne hmM))
      · exact .inr (mem_dropLast_of_ne hlast2 hv e)

theorem hullA_sub {l : List Pt} (h : Asc l) {v : Pt} (hv : v ∈ hullA l) : v ∈ l := by
  by_cases h2 : l.length < 2
  · rwa [hullA, if_pos h2] at hv
  · rcases (mem_hullA h (by omega)).1 hv with hv | hv
    · exact ((mem_chain h).1 hv).1
    · exact ((mem_high h).1 hv).1

/-- The hull is as far as the points, in each direction. -/
theorem hullA_sup {l : List Pt} (h : Asc l) (dx dy : Int) {q : Pt} (hq : q ∈ l) : ∃ v ∈ hullA l, lin dx dy q ≤ lin dx dy v := by
  by_cases h2 : l.length < 2
  · exact ⟨q, by rwa [hullA, if_pos h2], Int.le_refl _⟩
  · rcases Int.le_total dy 0 with hd | hd
    · obtain ⟨v, hv, hl⟩ := chain_sup h hd hq (dx := dx)
      exact ⟨v, (mem_hullA h (by omega)).2 (.inl hv), hl⟩
    · obtain ⟨v, hv, hl⟩ := high_sup h hd hq (dx := dx)
      exact ⟨v, (mem_hullA h (by omega)).2 (.inr hv), hl⟩

theorem mem_hullP_sub {l : List Pt} {v : Pt} (hv : v ∈ hullP l) : v ∈ l := mem_insP.1 (hullA_sub (asc_insP l) hv)
theorem hullP_sup (l : List Pt) (dx dy : Int) {q : Pt} (hq : q ∈ l) : ∃ v ∈ hullP l, lin dx dy q ≤ lin dx dy v := hullA_sup (asc_insP l) dx dy (mem_insP.2 hq)
theorem hullP_congr {l m : List Pt} (h : ∀ x, x ∈ l ↔ x ∈ m) : hullP l = hullP m := by rw [hullP, hullP, insP_congr h]

theorem asc_nodup {l : List Pt} (h : Asc l) : l.Nodup := h.imp ltP_ne
theorem nodup_hullA {l : List Pt} (h : Asc l) : (hullA l).Nodup := by
  by_cases h2 : l.length < 2
  · rw [hullA, if_pos h2]; exact asc_nodup h
  · have h2 : 2 ≤ l.length := by omega
    rw [hullA, if_neg (by omega)]
    obtain ⟨m, r, M, rfl⟩ := asc_ends h2
    have hlast : (chainP (m :: (r ++ [M]))).getLast? = some M := by simpa using chain_last (m :: r) M
    have hlast2 : (highP (m :: (r ++ [M]))).getLast? = some m := by simpa [highP] using chain_last (M :: r.reverse) m
    have n1 : (chainP (m :: (r ++ [M]))).Nodup := asc_nodup (asc_chain h)
    have n2 : (highP (m :: (r ++ [M]))).Nodup := (desc_high h).imp fun hab => (ltP_ne hab).symm
    have nl : ∀ {x : List Pt} {p : Pt}, x.getLast? = some p → x.Nodup → ∀ v ∈ x.dropLast, v ≠ p := by
      intro x p hx hn v hv e
      subst e
      have hne : x ≠ [] := by rintro rfl; simp at hx
      have e := List.dropLast_concat_getLast hne
      rw [List.getLast?_eq_some_getLast hne] at hx
      injection hx with hx
      rw [← e, hx, List.nodup_append] at hn
      exact hn.2.2 v hv v (by simp) rfl
    rw [List.nodup_append]
    refine ⟨n1.sublist (List.dropLast_sublist _), n2.sublist (List.dropLast_sublist _), fun a ha b hb e => ?_⟩
    subst e
    have q1 := (mem_chain h).1 (List.dropLast_subset _ ha)
    have q2 := (mem_high h).1 (List.dropLast_subset _ hb)
    have e1 := nl hlast n1 a ha
    have e2 := nl hlast2 n2 a hb
    have hs : ltP m a = true ∧ ltP a M = true := by
      have h0 := h
      unfold Asc at h0
      rw [List.pairwise_cons, List.pairwise_append] at h0
      rcases List.mem_cons.1 q1.1 with rfl | h1
      · exact absurd rfl e2
      · rcases List.mem_append.1 h1 with h3 | h3
        · exact ⟨h0.1 a h1, h0.2.2.2 a h3 M (by simp)⟩
        · exact absurd (List.mem_singleton.1 h3) e1
    have t1 := q1.2 m (by simp) M (by simp) hs.1 hs.2
    have t2 := q2.2 m (by simp) M (by simp) hs.1 hs.2
    omega
theorem nodup_len_le : ∀ {a b : List Pt}, a.Nodup → (∀ x ∈ a, x ∈ b) → a.length ≤ b.length
  | [], b, _, _ => by simp
  | x :: a, b, hn, hs => by
    rw [List.nodup_cons] at hn
    have hx : x ∈ b := hs x (by simp)
    have := nodup_len_le (a := a) (b := b.erase x) hn.2 (fun y hy => (List.mem_erase_of_ne (by rintro rfl; exact hn.1 hy)).2 (hs y (by simp [hy])))
    rw [List.length_erase_of_mem hx] at this
    have : 0 < b.length := List.length_pos_of_mem hx
    simp only [List.length_cons]; omega
theorem hullP_len (l : List Pt) : (hullP l).length ≤ l.length := nodup_len_le (nodup_hullA (asc_insP l)) fun _ hx => mem_hullP_sub hx
theorem insP_len (l : List Pt) : (insP l).length ≤ l.length := nodup_len_le (asc_nodup (asc_insP l)) fun _ hx => mem_insP.1 hx
theorem hullP_nil {l : List Pt} : hullP l = [] ↔ l = [] := by
  constructor
  · intro h
    cases l with
    | nil => rfl
    | cons x l =>
      obtain ⟨v, hv, _⟩ := hullP_sup (x :: l) 0 0 (q := x) (by simp)
      rw [h] at hv; simp at hv
  · rintro rfl; rfl

end Go.Pl
/- Hulls of hulls: plain facts. -/
set_option linter.unusedVariables false
set_option linter.unusedSimpArgs false
namespace Go.Pl

theorem ang' {px py qx qy rx ry : Int} (hp : 0 < px ∨ (px = 0 ∧ 0 < py)) (hq : 0 < qx ∨ (qx = 0 ∧ 0 < qy)) (hr : 0 < rx ∨ (rx = 0 ∧ 0 < ry))
    (h1 : 0 < px * qy - py * qx) (h2 : 0 ≤ qx * ry - qy * rx) : 0 < px * ry - py * rx := by
  have id1 : qx * (px * ry - py * rx) = (px * qy - py * qx) * rx + (qx * ry - qy * rx) * px := by grind
  have id2 : qy * (px * ry - py * rx) = (px * qy - py * qx) * ry + (qx * ry - qy * rx) * py := by grind
  have hpx : 0 ≤ px := by omega
  have h4 : 0 ≤ (qx * ry - qy * rx) * px := Int.mul_nonneg h2 hpx
  rcases hq with hq | ⟨rfl, hq⟩
  · rcases hr with hr | ⟨rfl, hr⟩
    · have h3 := Int.mul_pos h1 hr
      have h5 : 0 < qx * (px * ry - py * rx) := by omega
      exact Int.pos_of_mul_pos_right h5 (by omega)
    · rcases hp with hp | ⟨rfl, hp⟩
      · have := Int.mul_pos hp hr; grind
      · have := Int.mul_pos hp hq; grind
  · rcases hr with hr | ⟨rfl, hr⟩
    · have := Int.mul_pos hq hr; grind
    · rcases hp with hp | ⟨rfl, hp⟩
      · have := Int.mul_pos hp hr; grind
      · grind

theorem turn_side' {a v w b : Pt} (h1 : ltP a v = true) (h2 : ltP v w = true) (h3 : ltP v b = true) (k1 : 0 < turn a v w) (k2 : 0 ≤ turn v w b) : 0 < turn a v b := by
  have h := ang' (lt_pos h1) (lt_pos h2) (lt_pos h3) (by unfold turn at k1; grind) (by unfold turn at k2; grind)
  unfold turn at *
  grind

theorem bound2 (a : Pt) : ∀ T : List Pt, ∃ N : Int, 0 ≤ N ∧ ∀ t ∈ T, t.2 - a.2 ≤ N ∧ a.2 - t.2 ≤ N
  | [] => ⟨0, by omega, by simp⟩
  | t :: T => by
    obtain ⟨N, h0, h⟩ := bound2 a T
    refine ⟨N + (t.2 - a.2).natAbs, by omega, fun x hx => ?_⟩
    rcases List.mem_cons.1 hx with rfl | hx
    · omega
    · have := h x hx; omega

/-- What is strictly extreme in T is so in S, if S is nowhere farther than T. -/
theorem ext_up {S T : List Pt} (hT : Asc T) (hsub : ∀ t ∈ T, t ∈ S) (hsup : ∀ dx dy, ∀ q ∈ S, ∃ t ∈ T, lin dx dy q ≤ lin dx dy t) {v : Pt} (hv : v ∈ T) (hE : Ext T v) : Ext S v := by
  intro a ha b hb h1 h2
  have hk := chain_stk hT
  have hvm := (hk.mem v).2 ⟨hv, hE⟩
  obtain ⟨pre, r, e⟩ := List.append_of_mem hvm
  have hd := hk.desc
  unfold Desc at hd
  rw [e, List.pairwise_append, List.pairwise_cons] at hd
  cases r with
  | nil =>
    exfalso
    have hb := desc_bottom hT hk e
    obtain ⟨N, h0, hN⟩ := bound2 a T
    obtain ⟨t, ht, hl⟩ := hsup (-(N + 1)) (-1) a ha
    have hvt := hb t ht
    have hat : ltP a t = true := by
      cases k : ltP v t with
      | true => exact ltP_trans h1 k
      | false => rw [← ltP_total hvt k] at h1; exact h1
    have hn := hN t ht
    rcases lt_pos hat with hx | ⟨hx, hy⟩
    · have : (N + 1) * 1 ≤ (N + 1) * (t.1 - a.1) := Int.mul_le_mul_of_nonneg_left (by omega) (by omega)
      unfold lin at hl
      grind
    · have : t.1 = a.1 := by omega
      unfold lin at hl
      grind
  | cons u r =>
    have huv : ltP u v = true := hd.2.1.1 u (by simp)
    have side : ∀ {pre r : List Pt} {u v : Pt}, chainR T = pre ++ v :: u :: r → ∀ q ∈ S, 0 ≤ turn u v q := by
      intro pre r u v e q hq
      obtain ⟨t, ht, hl⟩ := hsup (v.2 - u.2) (-(v.1 - u.1)) q hq
      have := edge_low hk e t ht
      have t1 : turn u v q = lin (v.2 - u.2) (-(v.1 - u.1)) u - lin (v.2 - u.2) (-(v.1 - u.1)) q := by unfold turn lin; grind
      have t2 : turn u v t = lin (v.2 - u.2) (-(v.1 - u.1)) u - lin (v.2 - u.2) (-(v.1 - u.1)) t := by unfold turn lin; grind
      omega
    rcases List.eq_nil_or_concat pre with rfl | ⟨pre', w, rfl⟩
    · exfalso
      have hmax : ∀ t ∈ T, ltP v t = false := by
        intro t ht
        cases T with
        | nil => simp at ht
        | cons m T' =>
          have hne : m :: T' ≠ [] := by simp
          have e2 := List.dropLast_concat_getLast hne
          have hM := last_mem_ext (l := (m :: T').dropLast) (m := (m :: T').getLast hne) (by rw [e2]; exact hT)
          rw [e2] at hM
          have hMm := (hk.mem _).2 ⟨List.getLast_mem hne, hM.1⟩
          have hT' := hT
          unfold Asc at hT'
          rw [← e2, List.pairwise_append] at hT'
          have htM : ltP ((m :: T').getLast hne) t = false := by
            rw [← e2] at ht
            rcases List.mem_append.1 ht with ht | ht
            · exact ltP_asymm (hT'.2.2 t ht _ (by simp))
            · rw [List.mem_singleton.1 ht, ltP_irrefl]
          rw [e, List.nil_append] at hMm
          rcases List.mem_cons.1 hMm with h | h
          · rwa [h] at htM
          · have h3 := hd.2.1.1 _ h
            cases k : ltP v t with
            | false => rfl
            | true => rw [ltP_trans h3 k] at htM; cases htM
      obtain ⟨N, h0, hN⟩ := bound2 b T
      obtain ⟨t, ht, hl⟩ := hsup (N + 1) 1 b hb
      have hvt := hmax t ht
      have hat : ltP t b = true := by
        cases k : ltP t v with
        | true => exact ltP_trans k h2
        | false => rw [← ltP_total k hvt] at h2; exact h2
      have hn := hN t ht
      rcases lt_pos hat with hx | ⟨hx, hy⟩
      · have : (N + 1) * 1 ≤ (N + 1) * (b.1 - t.1) := Int.mul_le_mul_of_nonneg_left (by omega) (by omega)
        unfold lin at hl
        grind
      · have : t.1 = b.1 := by omega
        unfold lin at hl
        grind
    · have e3 : chainR T = pre' ++ w :: v :: (u :: r) := by rw [e]; simp
      have hw : ltP v w = true := hd.2.2 w (by simp) v (by simp)
      have huT := (hk.mem u).1 (by rw [e]; simp)
      have hwT := (hk.mem w).1 (by rw [e]; simp)
      have k1 := hE u huT.1 w hwT.1 huv hw
      have k2 := side e a ha
      have k3 := side e3 b hb
      exact turn_side' h1 hw h2 (turn_side huv h1 hw k2 k1) k3

theorem ext_congr {S T : List Pt} (h : ∀ x, x ∈ S ↔ x ∈ T) {v : Pt} : Ext S v ↔ Ext T v :=
  ⟨fun hE a ha b hb => hE a ((h a).2 ha) b ((h b).2 hb), fun hE a ha b hb => hE a ((h a).1 ha) b ((h b).1 hb)⟩
theorem top_congr {S T : List Pt} (h : ∀ x, x ∈ S ↔ x ∈ T) {v : Pt} : Top S v ↔ Top T v :=
  ⟨fun hE a ha b hb => hE a ((h a).2 ha) b ((h b).2 hb), fun hE a ha b hb => hE a ((h a).1 ha) b ((h b).1 hb)⟩
theorem top_neg {S : List Pt} {v : Pt} : Top S v ↔ Ext (S.map negP) (negP v) := by
  constructor
  · intro hT a ha b hb h1 h2
    rw [mem_neg] at ha hb
    have := hT (negP b) hb (negP a) ha (by rw [← negP_neg v, ltP_neg]; exact h2) (by rw [← negP_neg v, ltP_neg]; exact h1)
    have e : turn a (negP v) b = - turn (negP b) v (negP a) := by unfold turn negP; grind
    omega
  · intro hE a ha b hb h1 h2
    have := hE (negP b) (by rw [mem_neg, negP_neg]; simpa using hb) (negP a) (by rw [mem_neg, negP_neg]; simpa using ha) (by rw [ltP_neg]; exact h2) (by rw [ltP_neg]; exact h1)
    rw [turn_neg] at this
    have e : turn b v a = - turn a v b := by unfold turn; grind
    omega
theorem top_up {S T : List Pt} (hT : Asc T) (hsub : ∀ t ∈ T, t ∈ S) (hsup : ∀ dx dy, ∀ q ∈ S, ∃ t ∈ T, lin dx dy q ≤ lin dx dy t) {v : Pt} (hv : v ∈ T) (hE : Top T v) : Top S v := by
  rw [top_neg] at hE ⊢
  have hE' : Ext (T.reverse.map negP) (negP v) := (ext_congr (fun x => by simp)).1 hE
  refine ext_up (asc_neg hT) (fun t ht => ?_) (fun dx dy q hq => ?_) (by rw [mem_neg, negP_neg]; simpa using hv) hE'
  · rw [mem_neg] at ht ⊢; exact hsub _ (by simpa using ht)
  · rw [mem_neg] at hq
    obtain ⟨t, ht, hl⟩ := hsup (-dx) (-dy) _ hq
    refine ⟨negP t, by rw [mem_neg, negP_neg]; simpa using ht, ?_⟩
    rw [lin_neg] at hl ⊢
    simpa [Int.neg_neg] using hl

theorem mem_hullP {l : List Pt} {v : Pt} : v ∈ hullP l ↔ v ∈ l ∧ (Ext l v ∨ Top l v) := by
  have hc : ∀ x, x ∈ insP l ↔ x ∈ l := fun x => mem_insP
  by_cases h2 : (insP l).length < 2
  · rw [hullP, hullA, if_pos h2, hc]
    constructor
    · intro hv
      refine ⟨hv, .inl fun a ha b hb h1 _ => ?_⟩
      rw [← hc] at hv ha
      match insP l, h2, hv, ha with
      | [x], _, hv, ha =>
        rw [List.mem_singleton.1 hv, List.mem_singleton.1 ha, ltP_irrefl] at h1; cases h1
      | [], _, hv, _ => simp at hv
    · exact fun h => h.1
  · rw [hullP, mem_hullA (asc_insP l) (by omega), mem_chain (asc_insP l), mem_high (asc_insP l), hc, ext_congr hc, top_congr hc]
    constructor
    · rintro (h | h)
      · exact ⟨h.1, .inl h.2⟩
      · exact ⟨h.1, .inr h.2⟩
    · rintro ⟨h, h' | h'⟩
      · exact .inl ⟨h, h'⟩
      · exact .inr ⟨h, h'⟩

theorem desc_unique {a b : List Pt} (ha : Desc a) (hb : Desc b) (h : ∀ x, x ∈ a ↔ x ∈ b) : a = b := by
  have : a.reverse = b.reverse := asc_unique (by unfold Asc; rw [List.pairwise_reverse]; exact ha) (by unfold Asc; rw [List.pairwise_reverse]; exact hb) (fun x => by simp [h x])
  simpa using this

/-- Lists whose strictly extreme points are the same have the same hull. -/
theorem hullP_eq {S T : List Pt} (hE : ∀ v, (v ∈ S ∧ Ext S v) ↔ (v ∈ T ∧ Ext T v)) (hT : ∀ v, (v ∈ S ∧ Top S v) ↔ (v ∈ T ∧ Top T v)) : hullP S = hullP T := by
  have cS : ∀ x, x ∈ insP S ↔ x ∈ S := fun x => mem_insP
  have cT : ∀ x, x ∈ insP T ↔ x ∈ T := fun x => mem_insP
  have e1 : chainP (insP S) = chainP (insP T) := asc_unique (asc_chain (asc_insP S)) (asc_chain (asc_insP T)) fun v => by
    rw [mem_chain (asc_insP S), mem_chain (asc_insP T), cS, cT, ext_congr cS, ext_congr cT, hE v]
  have e2 : highP (insP S) = highP (insP T) := desc_unique (desc_high (asc_insP S)) (desc_high (asc_insP T)) fun v => by
    rw [mem_high (asc_insP S), mem_high (asc_insP T), cS, cT, top_congr cS, top_congr cT, hT v]
  have small : ∀ {X Y : List Pt}, (∀ v, (v ∈ X ∧ Ext X v) → (v ∈ Y ∧ Ext Y v)) → 2 ≤ (insP X).length → 2 ≤ (insP Y).length := by
    intro X Y h hX
    have hA := asc_insP X
    obtain ⟨m, r, M, e⟩ := asc_ends hX
    rw [e] at hA
    have h1 := (head_mem_ext hA).1
    have h2 := (last_mem_ext (l := m :: r) (m := M) (by simpa using hA)).1
    rw [List.cons_append] at h2
    rw [← e] at h1 h2
    have cX : ∀ x, x ∈ insP X ↔ x ∈ X := fun x => mem_insP
    have k1 := (h m ⟨(cX m).1 (by rw [e]; simp), (ext_congr cX).1 h1⟩).1
    have k2 := (h M ⟨(cX M).1 (by rw [e]; simp), (ext_congr cX).1 h2⟩).1
    have hne : ltP m M = true := by
      unfold Asc at hA; rw [List.pairwise_cons] at hA; exact hA.1 M (by simp)
    exact nodup_len_le (a := [m, M]) (b := insP Y) (by simp [ltP_ne hne]) (by
      intro x hx
      rw [mem_insP]
      simp at hx
      rcases hx with rfl | rfl
      · exact k1
      · exact k2)
  by_cases hS : 2 ≤ (insP S).length
  · have hT2 := small (fun v => (hE v).1) hS
    rw [hullP, hullP, hullA, hullA, if_neg (by omega), if_neg (by omega), e1, e2]
  · have hT2 : ¬ 2 ≤ (insP T).length := fun h => hS (small (fun v => (hE v).2) h)
    rw [hullP, hullP, hullA, hullA, if_pos (by omega), if_pos (by omega)]
    have all : ∀ {X : List Pt}, ¬ 2 ≤ (insP X).length → ∀ v ∈ X, Ext X v := by
      intro X hX v hv a ha b hb h1 _
      exfalso
      have ha := mem_insP.2 ha
      have hv := mem_insP.2 hv
      match insP X, hX, ha, hv with
      | [x], _, ha, hv => rw [List.mem_singleton.1 hv, List.mem_singleton.1 ha, ltP_irrefl] at h1; cases h1
      | [], _, ha, hv => simp at hv
      | _ :: _ :: _, h, _, _ => simp at h
    refine asc_unique (asc_insP S) (asc_insP T) fun x => ?_
    rw [cS, cT]
    exact ⟨fun h => ((hE x).1 ⟨h, all hS x h⟩).1, fun h => ((hE x).2 ⟨h, all hT2 x h⟩).1⟩

/-- Points that are nowhere farther than some of them, among which the strictly extreme ones are. -/
theorem hullP_of_sup {S T : List Pt} (hsub : ∀ t ∈ T, t ∈ S) (hsup : ∀ dx dy, ∀ q ∈ S, ∃ t ∈ T, lin dx dy q ≤ lin dx dy t) (hall : ∀ v ∈ S, Ext S v ∨ Top S v → v ∈ T) : hullP T = hullP S := by
  have cT : ∀ x, x ∈ insP T ↔ x ∈ T := fun x => mem_insP
  have hsup' : ∀ dx dy, ∀ q ∈ S, ∃ t ∈ insP T, lin dx dy q ≤ lin dx dy t := fun dx dy q hq => by
    obtain ⟨t, ht, hl⟩ := hsup dx dy q hq
    exact ⟨t, (cT t).2 ht, hl⟩
  refine hullP_eq (fun v => ⟨fun h => ⟨hsub v h.1, ?_⟩, fun h => ⟨hall v h.1 (.inl h.2), ?_⟩⟩) (fun v => ⟨fun h => ⟨hsub v h.1, ?_⟩, fun h => ⟨hall v h.1 (.inr h.2), ?_⟩⟩)
  · exact ext_up (asc_insP T) (fun t ht => hsub t ((cT t).1 ht)) hsup' ((cT v).2 h.1) ((ext_congr cT).2 h.2)
  · exact fun a ha b hb => h.2 a (hsub a ha) b (hsub b hb)
  · exact top_up (asc_insP T) (fun t ht => hsub t ((cT t).1 ht)) hsup' ((cT v).2 h.1) ((top_congr cT).2 h.2)
  · exact fun a ha b hb => h.2 a (hsub a ha) b (hsub b hb)

/-- The hull of two hulls. -/
theorem hullP_sum (A B : List Pt) : hullP (hullP A ++ hullP B) = hullP (A ++ B) := by
  refine hullP_of_sup (fun t ht => ?_) (fun dx dy q hq => ?_) (fun v hv h => ?_)
  · rcases List.mem_append.1 ht with ht | ht
    · exact List.mem_append_left _ (mem_hullP_sub ht)
    · exact List.mem_append_right _ (mem_hullP_sub ht)
  · rcases List.mem_append.1 hq with hq | hq
    · obtain ⟨t, ht, hl⟩ := hullP_sup A dx dy hq
      exact ⟨t, List.mem_append_left _ ht, hl⟩
    · obtain ⟨t, ht, hl⟩ := hullP_sup B dx dy hq
      exact ⟨t, List.mem_append_right _ ht, hl⟩
  · rcases List.mem_append.1 hv with hv | hv
    · refine List.mem_append_left _ (mem_hullP.2 ⟨hv, ?_⟩)
      rcases h with h | h
      · exact .inl fun a ha b hb => h a (List.mem_append_left _ ha) b (List.mem_append_left _ hb)
      · exact .inr fun a ha b hb => h a (List.mem_append_left _ ha) b (List.mem_append_left _ hb)
    · refine List.mem_append_right _ (mem_hullP.2 ⟨hv, ?_⟩)
      rcases h with h | h
      · exact .inl fun a ha b hb => h a (List.mem_append_right _ ha) b (List.mem_append_right _ hb)
      · exact .inr fun a ha b hb => h a (List.mem_append_right _ ha) b (List.mem_append_right _ hb)
theorem hullP_idem (A : List Pt) : hullP (hullP A) = hullP A := by
  have := hullP_sum A []
  simpa [show hullP ([] : List Pt) = [] from rfl] using this

/-! distances -/
def sqd (a b : Pt) : Int := (a.1 - b.1) * (a.1 - b.1) + (a.2 - b.2) * (a.2 - b.2)
theorem sq_nonneg (x : Int) : 0 ≤ x * x := by
  rcases Int.le_total 0 x with h | h
  · exact Int.mul_nonneg h h
  · have := Int.mul_nonneg (a := -x) (b := -x) (by omega) (by omega); grind
theorem sqd_nonneg (a b : Pt) : 0 ≤ sqd a b := by
  have := sq_nonneg (a.1 - b.1); have := sq_nonneg (a.2 - b.2); unfold sqd; omega
theorem sqd_comm (a b : Pt) : sqd a b = sqd b a := by unfold sqd; grind
theorem sqd_eq_zero {a b : Pt} (h : sqd a b = 0) : a = b := by
  have h1 := sq_nonneg (a.1 - b.1); have h2 := sq_nonneg (a.2 - b.2)
  unfold sqd at h
  have h3 : (a.1 - b.1) * (a.1 - b.1) = 0 := by omega
  have h4 : (a.2 - b.2) * (a.2 - b.2) = 0 := by omega
  have k1 : a.1 - b.1 = 0 := by rcases Int.mul_eq_zero.1 h3 with h | h <;> exact h
  have k2 : a.2 - b.2 = 0 := by rcases Int.mul_eq_zero.1 h4 with h | h <;> exact h
  apply Prod.ext <;> omega

/-- For any point there is a vertex of the hull that is at least as far from p; if it is no farther, it is that point. -/
theorem hull_far (l : List Pt) {p q : Pt} (hq : q ∈ l) : ∃ v ∈ hullP l, sqd q p ≤ sqd v p ∧ (sqd v p = sqd q p → v = q) := by
  obtain ⟨v, hv, hl⟩ := hullP_sup l (q.1 - p.1) (q.2 - p.2) hq
  have h : sqd v p = sqd q p + 2 * (lin (q.1 - p.1) (q.2 - p.2) v - lin (q.1 - p.1) (q.2 - p.2) q) + sqd v q := by unfold sqd lin; grind
  have h0 := sqd_nonneg v q
  exact ⟨v, hv, by omega, fun e => sqd_eq_zero (by omega)⟩

end Go.Pl
/- The farthest pair of points: two ways to look for it; the hull has the same distance. -/
set_option linter.unusedVariables false
namespace Go.Pl

abbrev pA (l : List Pt) (i : Nat) : Pt := l.getD i (0, 0)
/-- The squared distance of the points at two places. -/
def dis (l : List Pt) (s : Nat × Nat) : Int := sqd (pA l s.1) (pA l s.2)
def fRow (l : List Pt) (i : Nat) (s : Nat × Nat) : Nat → Nat × Nat
  | 0 => s
  | m + 1 => if dis l (fRow l i s m) < dis l (i, i + 1 + m) then (i, i + 1 + m) else fRow l i s m
def fAll (l : List Pt) : Nat → Nat × Nat
  | 0 => (0, 0)
  | i + 1 => fRow l i (fAll l i) (l.length - (i + 1))
def farPair (l : List Pt) : Nat × Nat := fAll l l.length
def bRow (l : List Pt) (i : Nat) (s : (Nat × Nat) × Int) : Nat → (Nat × Nat) × Int
  | 0 => s
  | m + 1 => if (bRow l i s m).2 < 0 ∨ (bRow l i s m).2 < dis l (i, i + 1 + m) then ((i, i + 1 + m), dis l (i, i + 1 + m)) else bRow l i s m
def bAll (l : List Pt) : Nat → (Nat × Nat) × Int
  | 0 => ((0, 0), -1)
  | i + 1 => bRow l i (bAll l i) (l.length - (i + 1))

theorem dis_nonneg (l : List Pt) (s : Nat × Nat) : 0 ≤ dis l s := sqd_nonneg _ _
theorem dis_same (l : List Pt) (i : Nat) : dis l (i, i) = 0 := by unfold dis sqd; simp
def BF (l : List Pt) (s : Nat × Nat) (t : (Nat × Nat) × Int) : Prop := (t.2 ≤ 0 ∧ s = (0, 0)) ∨ (0 < t.2 ∧ t.1 = s ∧ t.2 = dis l s)
theorem row_BF {l : List Pt} {i : Nat} {s : Nat × Nat} {t : (Nat × Nat) × Int} (h : BF l s t) : ∀ m, BF l (fRow l i s m) (bRow l i t m)
  | 0 => h
  | m + 1 => by
    have ih := row_BF (i := i) h m
    have hn := dis_nonneg l (i, i + 1 + m)
    have h0 : dis l (0, 0) = 0 := dis_same l 0
    rw [fRow, bRow]
    generalize fRow l i s m = s' at *
    generalize bRow l i t m = t' at *
    rcases ih with ⟨h1, rfl⟩ | ⟨h1, h2, h3⟩
    · rw [h0]
      by_cases c : 0 < dis l (i, i + 1 + m)
      · rw [if_pos c, if_pos (by omega)]
        exact .inr ⟨c, rfl, rfl⟩
      · rw [if_neg c]
        split
        · exact .inl ⟨by simp only []; omega, rfl⟩
        · exact .inl ⟨h1, rfl⟩
    · by_cases c : dis l s' < dis l (i, i + 1 + m)
      · rw [if_pos c, if_pos (by omega)]
        exact .inr ⟨by simp only []; omega, rfl, rfl⟩
      · rw [if_neg c, if_neg (by omega)]
        exact .inr ⟨h1, h2, h3⟩
theorem all_BF (l : List Pt) : ∀ i, BF l (fAll l i) (bAll l i)
  | 0 => .inl ⟨by simp [bAll], rfl⟩
  | i + 1 => row_BF (all_BF l i) _

theorem fRow_ge (l : List Pt) (i : Nat) (s : Nat × Nat) : ∀ m, dis l s ≤ dis l (fRow l i s m) ∧ ∀ j, j < m → dis l (i, i + 1 + j) ≤ dis l (fRow l i s m)
  | 0 => ⟨Int.le_refl _, fun j h => by omega⟩
  | m + 1 => by
    obtain ⟨h1, h2⟩ := fRow_ge l i s m
    rw [fRow]
    split
    · refine ⟨by omega, fun j hj => ?_⟩
      rcases Nat.lt_succ_iff_lt_or_eq.1 hj with h | rfl
      · have := h2 j h; omega
      · exact Int.le_refl _
    · refine ⟨h1, fun j hj => ?_⟩
      rcases Nat.lt_succ_iff_lt_or_eq.1 hj with h | rfl
      · exact h2 j h
      · omega
theorem fAll_ge (l : List Pt) : ∀ n i k, i < n → i < k → k < l.length → dis l (i, k) ≤ dis l (fAll l n)
  | n + 1, i, k, hi, hk, hl => by
    obtain ⟨h1, h2⟩ := fRow_ge l n (fAll l n) (l.length - (n + 1))
    rw [fAll]
    rcases Nat.lt_succ_iff_lt_or_eq.1 hi with h | rfl
    · have := fAll_ge l n i k h hk hl; omega
    · have := h2 (k - (i + 1)) (by omega)
      rwa [show i + 1 + (k - (i + 1)) = k by omega] at this
theorem fRow_lt {l : List Pt} {i : Nat} {s : Nat × Nat} (hs : s.1 < l.length ∧ s.2 < l.length) : ∀ m, i + m < l.length → (fRow l i s m).1 < l.length ∧ (fRow l i s m).2 < l.length
  | 0, _ => hs
  | m + 1, h => by
    have ih := fRow_lt (i := i) hs m (by omega)
    rw [fRow]
    split
    · exact ⟨by simp only []; omega, by simp only []; omega⟩
    · exact ih
theorem fAll_lt {l : List Pt} (h0 : 0 < l.length) : ∀ n, n ≤ l.length → (fAll l n).1 < l.length ∧ (fAll l n).2 < l.length
  | 0, _ => ⟨h0, h0⟩
  | n + 1, h => fRow_lt (fAll_lt h0 n (by omega)) _ (by omega)
theorem farPair_lt {l : List Pt} (h0 : 0 < l.length) : (farPair l).1 < l.length ∧ (farPair l).2 < l.length := fAll_lt h0 _ (Nat.le_refl _)
theorem farPair_ge {l : List Pt} {i k : Nat} (hi : i < l.length) (hk : k < l.length) : dis l (i, k) ≤ dis l (farPair l) := by
  have h0 := dis_nonneg l (farPair l)
  rcases Nat.lt_trichotomy i k with h | rfl | h
  · exact fAll_ge l _ i k hi h hk
  · rw [dis_same]; exact h0
  · have := fAll_ge l _ k i hk h hi
    have e : dis l (i, k) = dis l (k, i) := sqd_comm _ _
    rw [e]; exact this
theorem mem_pA {l : List Pt} {p : Pt} (h : p ∈ l) : ∃ i, i < l.length ∧ pA l i = p := by
  obtain ⟨i, hi, rfl⟩ := List.getElem_of_mem h
  exact ⟨i, hi, by simp [pA, List.getD, hi]⟩
theorem pA_mem {l : List Pt} {i : Nat} (h : i < l.length) : pA l i ∈ l := by
  simp only [pA, List.getD, List.getElem?_eq_getElem h]
  exact List.getElem_mem h
theorem far_max {l : List Pt} {p q : Pt} (hp : p ∈ l) (hq : q ∈ l) : sqd p q ≤ dis l (farPair l) := by
  obtain ⟨i, hi, rfl⟩ := mem_pA hp
  obtain ⟨k, hk, rfl⟩ := mem_pA hq
  exact farPair_ge hi hk
theorem far_hull {l : List Pt} (h0 : 0 < l.length) : dis (hullP l) (farPair (hullP l)) = dis l (farPair l) := by
  have hh : 0 < (hullP l).length := by
    rcases Nat.eq_zero_or_pos (hullP l).length with h | h
    · have := hullP_nil.1 (List.length_eq_zero_iff.1 h)
      subst this; simp at h0
    · exact h
  obtain ⟨a1, a2⟩ := farPair_lt h0
  obtain ⟨b1, b2⟩ := farPair_lt hh
  refine Int.le_antisymm (far_max (mem_hullP_sub (pA_mem b1)) (mem_hullP_sub (pA_mem b2))) ?_
  obtain ⟨v, hv, k1, _⟩ := hull_far l (p := pA l (farPair l).2) (pA_mem a1)
  obtain ⟨w, hw, k2, _⟩ := hull_far l (p := v) (pA_mem a2)
  have h3 := far_max hw hv
  have h4 := sqd_comm v (pA l (farPair l).2)
  have h5 : dis l (farPair l) = sqd (pA l (farPair l).1) (pA l (farPair l).2) := rfl
  omega
/-- The ends of a farthest pair are vertices of the hull. -/
theorem far_ends {l : List Pt} (h0 : 0 < l.length) : pA l (farPair l).1 ∈ hullP l ∧ pA l (farPair l).2 ∈ hullP l := by
  obtain ⟨a1, a2⟩ := farPair_lt h0
  have h5 : dis l (farPair l) = sqd (pA l (farPair l).1) (pA l (farPair l).2) := rfl
  constructor
  · obtain ⟨v, hv, k1, k2⟩ := hull_far l (p := pA l (farPair l).2) (pA_mem a1)
    have := far_max (mem_hullP_sub hv) (pA_mem a2)
    rw [← k2 (by omega)]; exact hv
  · obtain ⟨v, hv, k1, k2⟩ := hull_far l (p := pA l (farPair l).1) (pA_mem a2)
    have := far_max (mem_hullP_sub hv) (pA_mem a1)
    have h6 := sqd_comm (pA l (farPair l).1) (pA l (farPair l).2)
    rw [← k2 (by omega)]; exact hv

end Go.Pl
/- Hulls and translations; points on segments; common ends of segments. -/
set_option linter.unusedVariables false
namespace Go.Pl

/-! translations -/
def mv (dx dy : Int) (p : Pt) : Pt := (p.1 + dx, p.2 + dy)
section
variable (dx dy : Int)
theorem ltP_mv (p q : Pt) : ltP (mv dx dy p) (mv dx dy q) = ltP p q := by
  rw [Bool.eq_iff_iff, ltP_iff, ltP_iff]; unfold mv; simp only []; omega
theorem mv_beq (p q : Pt) : (mv dx dy p == mv dx dy q) = (p == q) := by
  rw [Bool.eq_iff_iff]; simp only [beq_iff_eq, mv, Prod.ext_iff]; omega
theorem turn_mv (a b c : Pt) : turn (mv dx dy a) (mv dx dy b) (mv dx dy c) = turn a b c := by unfold turn mv; grind
theorem addP_mv (p : Pt) : ∀ l : List Pt, addP (l.map (mv dx dy)) (mv dx dy p) = (addP l p).map (mv dx dy)
  | [] => rfl
  | q :: l => by
    simp only [List.map_cons, addP, ltP_mv, mv_beq, addP_mv p l]
    split
    · rfl
    · split <;> rfl
theorem fold_mv : ∀ l m : List Pt, (l.map (mv dx dy)).foldl addP (m.map (mv dx dy)) = (l.foldl addP m).map (mv dx dy)
  | [], m => rfl
  | p :: l, m => by simp only [List.map_cons, List.foldl_cons, addP_mv, fold_mv l]
theorem insP_mv (l : List Pt) : insP (l.map (mv dx dy)) = (insP l).map (mv dx dy) := fold_mv dx dy l []
theorem popP_mv : ∀ (st : List Pt) (p : Pt), popP (st.map (mv dx dy)) (mv dx dy p) = (popP st p).map (mv dx dy)
  | [], _ => rfl
  | [_], _ => rfl
  | b :: a :: r, p => by
    have ih := popP_mv (a :: r) p
    simp only [List.map_cons] at ih ⊢
    rw [popP, popP, turn_mv]
    split
    · exact ih
    · rfl
theorem stepF_mv : ∀ l st : List Pt, (l.map (mv dx dy)).foldl stepP (st.map (mv dx dy)) = (l.foldl stepP st).map (mv dx dy)
  | [], _ => rfl
  | p :: l, st => by
    have : stepP (st.map (mv dx dy)) (mv dx dy p) = (stepP st p).map (mv dx dy) := by simp only [stepP, popP_mv, List.map_cons]
    simp only [List.map_cons, List.foldl_cons, this, stepF_mv l]
theorem chain_mv (l : List Pt) : chainP (l.map (mv dx dy)) = (chainP l).map (mv dx dy) := by
  have := stepF_mv dx dy l []
  simp only [List.map_nil] at this
  simp only [chainP, chainR, this, List.map_reverse]
theorem hullA_mv (l : List Pt) : hullA (l.map (mv dx dy)) = (hullA l).map (mv dx dy) := by
  unfold hullA highP
  rw [List.length_map]
  split
  · rfl
  · rw [← List.map_reverse, chain_mv, chain_mv, List.map_append, List.map_dropLast, List.map_dropLast]
theorem hullP_mv (l : List Pt) : hullP (l.map (mv dx dy)) = (hullP l).map (mv dx dy) := by rw [hullP, insP_mv, hullA_mv]; rfl
end
theorem hullP_rev (l : List Pt) : hullP l.reverse = hullP l := hullP_congr (by simp)
theorem hullP_ins (l : List Pt) : hullP (insP l) = hullP l := hullP_congr (fun x => mem_insP)

/-! points on segments -/
abbrev Sg := Pt × Pt
def btw (s : Sg) (p : Pt) : Bool := decide (min s.1.1 s.2.1 ≤ p.1) && decide (p.1 ≤ max s.1.1 s.2.1) && (decide (min s.1.2 s.2.2 ≤ p.2) && decide (p.2 ≤ max s.1.2 s.2.2))
/-- Is a point on a segment? -/
def onS (s : Sg) (p : Pt) : Bool := (turn s.1 s.2 p == 0) && btw s p
def dotW (s : Sg) (p : Pt) : Int := (s.1.1 - p.1) * (s.2.1 - p.1) + (s.1.2 - p.2) * (s.2.2 - p.2)
theorem mul_le0 {a b : Int} : a * b ≤ 0 ↔ (a ≤ 0 ∧ 0 ≤ b) ∨ (0 ≤ a ∧ b ≤ 0) := by
  constructor
  · intro h
    rcases Int.lt_trichotomy a 0 with ha | ha | ha
    · rcases Int.lt_or_le b 0 with hb | hb
      · have := Int.mul_pos_of_neg_of_neg ha hb; omega
      · exact .inl ⟨by omega, hb⟩
    · subst ha; omega
    · rcases Int.lt_or_le 0 b with hb | hb
      · have := Int.mul_pos ha hb; omega
      · exact .inr ⟨by omega, hb⟩
  · rintro (⟨h1, h2⟩ | ⟨h1, h2⟩)
    · have := Int.mul_nonneg (show 0 ≤ -a by omega) h2
      have e : -a * b = -(a * b) := Int.neg_mul a b
      omega
    · have := Int.mul_nonneg h1 (show 0 ≤ -b by omega)
      have e : a * -b = -(a * b) := Int.mul_neg a b
      omega
theorem same_sign {u1 v1 u2 v2 : Int} (hc : u1 * v2 = u2 * v1) : u1 * v1 + u2 * v2 ≤ 0 ↔ u1 * v1 ≤ 0 ∧ u2 * v2 ≤ 0 := by
  have hp : (u1 * v1) * (u2 * v2) = (u1 * v2) * (u1 * v2) := by
    have : (u1 * v1) * (u2 * v2) = (u1 * v2) * (u2 * v1) := by grind
    rw [this, ← hc]
  have hq := sq_nonneg (u1 * v2)
  rw [← hp] at hq
  generalize u1 * v1 = X at *
  generalize u2 * v2 = Y at *
  constructor
  · intro h
    constructor
    · apply Classical.byContradiction
      intro hX
      have := Int.mul_neg_of_pos_of_neg (show 0 < X by omega) (show Y < 0 by omega)
      omega
    · apply Classical.byContradiction
      intro hY
      have := Int.mul_neg_of_neg_of_pos (show X < 0 by omega) (show 0 < Y by omega)
      omega
  · rintro ⟨h1, h2⟩; omega
theorem has_onS (s : Sg) (p : Pt) : ((turn s.1 s.2 p == 0) && decide (dotW s p ≤ 0)) = onS s p := by
  unfold onS
  by_cases ht : turn s.1 s.2 p = 0
  · have e : (turn s.1 s.2 p == 0) = true := by simpa using ht
    rw [e, Bool.true_and, Bool.true_and, Bool.eq_iff_iff, decide_eq_true_eq]
    obtain ⟨⟨ax, ay⟩, ⟨bx, b_⟩⟩ := s
    obtain ⟨px, py⟩ := p
    simp only [turn, dotW, btw, Bool.and_eq_true, decide_eq_true_eq] at *
    have hx : (min ax bx ≤ px ∧ px ≤ max ax bx) ↔ (ax - px) * (bx - px) ≤ 0 := by rw [mul_le0]; omega
    have hy : (min ay b_ ≤ py ∧ py ≤ max ay b_) ↔ (ay - py) * (b_ - py) ≤ 0 := by rw [mul_le0]; omega
    rw [hx, hy]
    have hc : (ax - px) * (b_ - py) = (ay - py) * (bx - px) := by grind
    exact same_sign hc
  · have e : (turn s.1 s.2 p == 0) = false := by simpa using ht
    rw [e, Bool.false_and, Bool.false_and]
theorem turn_same1 (a b : Pt) : turn a b a = 0 := by unfold turn; grind
theorem turn_same2 (a b : Pt) : turn a b b = 0 := by unfold turn; grind
theorem onS_1 (s : Sg) : onS s s.1 = true := by
  unfold onS btw
  rw [turn_same1]
  simp only [Bool.and_eq_true, decide_eq_true_eq, beq_self_eq_true, true_and]
  omega
theorem onS_2 (s : Sg) : onS s s.2 = true := by
  unfold onS btw
  rw [turn_same2]
  simp only [Bool.and_eq_true, decide_eq_true_eq, beq_self_eq_true, true_and]
  omega

/-! common ends -/
/-- The ends of both that lie on both, in order. -/
def endsP (s t : Sg) : List Pt := insP ([s.1, s.2, t.1, t.2].filter fun p => onS s p && onS t p)
/-- The same, in another order. -/
def comP (s t : Sg) : List Pt := ([s.1, s.2].filter fun p => onS t p) ++ ([t.1, t.2].filter fun p => onS s p && !(p == s.1 || p == s.2))
theorem nodup_insP (l : List Pt) : (insP l).Nodup := asc_nodup (asc_insP l)
theorem com_ends {s t : Sg} (hs : s.1 ≠ s.2) (ht : t.1 ≠ t.2) : (comP s t).length = (endsP s t).length := by
  have hmem : ∀ x, x ∈ comP s t ↔ x ∈ endsP s t := by
    intro x
    rw [endsP, mem_insP, comP]
    simp only [List.mem_append, List.mem_filter, List.mem_cons, List.not_mem_nil, or_false, Bool.and_eq_true, Bool.not_eq_true', Bool.or_eq_false_iff, beq_eq_false_iff_ne]
    constructor
    · rintro (⟨h1, h2⟩ | ⟨h1, h2, h3⟩)
      · rcases h1 with rfl | rfl
        · exact ⟨.inl rfl, onS_1 s, h2⟩
        · exact ⟨.inr (.inl rfl), onS_2 s, h2⟩
      · rcases h1 with rfl | rfl
        · exact ⟨.inr (.inr (.inl rfl)), h2, onS_1 t⟩
        · exact ⟨.inr (.inr (.inr rfl)), h2, onS_2 t⟩
    · rintro ⟨h1, h2, h3⟩
      by_cases c : x = s.1 ∨ x = s.2
      · exact .inl ⟨c, h3⟩
      · refine .inr ⟨?_, h2, fun e => c (.inl e), fun e => c (.inr e)⟩
        rcases h1 with h | h | h | h
        · exact absurd (.inl h) c
        · exact absurd (.inr h) c
        · exact .inl h
        · exact .inr h
  have hnd : (comP s t).Nodup := by
    rw [comP, List.nodup_append]
    refine ⟨List.Pairwise.filter _ (by simp [hs]), List.Pairwise.filter _ (by simp [ht]), ?_⟩
    intro a ha b hb hab
    subst hab
    simp only [List.mem_filter, List.mem_cons, List.not_mem_nil, or_false, Bool.and_eq_true, Bool.not_eq_true', Bool.or_eq_false_iff, beq_eq_false_iff_ne] at ha hb
    rcases ha.1 with h | h
    · exact hb.2.2.1 h
    · exact hb.2.2.2 h
  exact Nat.le_antisymm (nodup_len_le hnd fun x hx => (hmem x).1 hx) (nodup_len_le (nodup_insP _) fun x hx => (hmem x).2 hx)

/-- The relation of segments. -/
def sgnI (x : Int) : Int := if x < 0 then -1 else if 0 < x then 1 else 0
def crossesP (s t : Sg) : Bool := decide (sgnI (turn s.1 s.2 t.1) * sgnI (turn s.1 s.2 t.2) < 0) && decide (sgnI (turn t.1 t.2 s.1) * sgnI (turn t.1 t.2 s.2) < 0)
def relP (s t : Sg) : Int := if 1 < (endsP s t).length then 3 else if (endsP s t).length = 1 then 1 else if crossesP s t then 2 else 0
end Go.Pl
/- Simple polygons: two ways to ask. -/
set_option linter.unusedVariables false
namespace Go.Pl

theorem nodup_of_ins : ∀ {l : List Pt}, (insP l).length = l.length → l.Nodup
  | [], _ => List.nodup_nil
  | x :: r, h => by
    have hx : x ∉ r := by
      intro hx
      have : insP (x :: r) = insP r := insP_congr fun y => by
        simp only [List.mem_cons]
        constructor
        · rintro (rfl | h)
          · exact hx
          · exact h
        · exact .inr
      rw [this] at h
      have := insP_len r
      simp at h
      omega
    have h1 : (insP (x :: r)).length ≤ (x :: insP r).length := nodup_len_le (nodup_insP _) fun y hy => by
      rw [mem_insP, List.mem_cons] at hy
      rw [List.mem_cons, mem_insP]
      exact hy
    have h2 := insP_len r
    simp only [List.length_cons] at h h1
    exact List.nodup_cons.2 ⟨hx, nodup_of_ins (by omega)⟩
theorem pA_inj {l : List Pt} (h : l.Nodup) {i k : Nat} (hi : i < l.length) (hk : k < l.length) (e : pA l i = pA l k) : i = k := by
  simp only [pA, List.getD, List.getElem?_eq_getElem hi, List.getElem?_eq_getElem hk, Option.getD_some] at e
  exact (List.getElem_inj h).1 e

/-- The edge from the i-th vertex on. -/
def edP (l : List Pt) (i : Nat) : Sg := (pA l i, pA l ((i + 1) % l.length))
theorem mod_ne {i n : Nat} (h2 : 2 ≤ n) (hi : i < n) : (i + 1) % n ≠ i := by
  rcases Nat.lt_or_ge (i + 1) n with h | h
  · rw [Nat.mod_eq_of_lt h]; omega
  · have : i + 1 = n := by omega
    rw [this, Nat.mod_self]; omega
theorem ed_ne {l : List Pt} (h : l.Nodup) (h2 : 2 ≤ l.length) {i : Nat} (hi : i < l.length) : (edP l i).1 ≠ (edP l i).2 := by
  intro e
  have := pA_inj h hi (Nat.mod_lt _ (by omega)) e
  exact mod_ne h2 hi this.symm
/-- Is the i-th edge next to the k-th one? -/
def nextB (n i k : Nat) : Bool := decide (k + 1 = i) || decide ((i + 1) % n = k)
def okS (n i k : Nat) (r : Int) : Bool := bif nextB n i k then r != 3 else r == 0
def okI (n i k : Nat) (r : Int) : Bool := r == (if i - k = 1 ∨ i - k = n - 1 then 1 else 0)
theorem next_iff {n i k : Nat} (hk : k < i) (hi : i < n) : nextB n i k = true ↔ i - k = 1 ∨ i - k = n - 1 := by
  simp only [nextB, Bool.or_eq_true, decide_eq_true_eq]
  rcases Nat.lt_or_ge (i + 1) n with h | h
  · rw [Nat.mod_eq_of_lt h]; omega
  · have : i + 1 = n := by omega
    rw [this, Nat.mod_self]; omega
theorem ends_pos {s t : Sg} {p : Pt} (hp : p = s.1 ∨ p = s.2) (hs : onS s p = true) (ht : onS t p = true) : 1 ≤ (endsP s t).length := by
  have : p ∈ endsP s t := by
    rw [endsP, mem_insP, List.mem_filter]
    refine ⟨?_, by rw [hs, ht]; rfl⟩
    rcases hp with rfl | rfl <;> simp
  exact List.length_pos_of_mem this
theorem rel_next {l : List Pt} {i k : Nat} (hk : k < i) (hi : i < l.length) (h : nextB l.length i k = true) : relP (edP l i) (edP l k) = 1 ∨ relP (edP l i) (edP l k) = 3 := by
  have h1 : 1 ≤ (endsP (edP l i) (edP l k)).length := by
    simp only [nextB, Bool.or_eq_true, decide_eq_true_eq] at h
    rcases h with h | h
    · refine ends_pos (p := (edP l i).1) (.inl rfl) (onS_1 _) ?_
      have : (edP l i).1 = (edP l k).2 := by
        simp only [edP]
        rw [h, Nat.mod_eq_of_lt hi]
      rw [this]; exact onS_2 _
    · refine ends_pos (p := (edP l i).2) (.inr rfl) (onS_2 _) ?_
      have : (edP l i).2 = (edP l k).1 := by simp only [edP]; rw [h]
      rw [this]; exact onS_1 _
  unfold relP
  split
  · exact .inr rfl
  · rw [if_pos (by omega)]; exact .inl rfl
theorem ok_same {l : List Pt} {i k : Nat} (hk : k < i) (hi : i < l.length) : okI l.length i k (relP (edP l i) (edP l k)) = okS l.length i k (relP (edP l i) (edP l k)) := by
  unfold okI okS
  cases hn : nextB l.length i k with
  | true =>
    rw [if_pos ((next_iff hk hi).1 hn)]
    rcases rel_next hk hi hn with h | h <;> rw [h] <;> rfl
  | false =>
    rw [if_neg (fun h => by rw [(next_iff hk hi).2 h] at hn; cases hn)]
    rfl
/-- Do all pairs of edges lie as they should? -/
def pairsP (l : List Pt) : Bool := (List.range l.length).all fun i => (List.range i).all fun k => okS l.length i k (relP (edP l i) (edP l k))
theorem pairs_iff {l : List Pt} : pairsP l = true ↔ ∀ i, i < l.length → ∀ k, k < i → okS l.length i k (relP (edP l i) (edP l k)) = true := by
  simp only [pairsP, List.all_eq_true, List.mem_range]
theorem pairs_no {l : List Pt} {i k : Nat} (hi : i < l.length) (hk : k < i) (h : okS l.length i k (relP (edP l i) (edP l k)) = false) : pairsP l = false := by
  cases hp : pairsP l with
  | false => rfl
  | true => rw [pairs_iff.1 hp i hi k hk] at h; cases h

/-! where a point is of a polygon -/
/-- Does the edge cross the ray from a point? -/
def rayP (e : Sg) (q : Pt) : Bool :=
  let f : Sg := if e.2.2 < e.1.2 then (e.2, e.1) else e
  decide (f.1.2 ≤ q.2) && decide (q.2 < f.2.2) && decide (0 < turn f.1 f.2 q)
def locR (q : Pt) : List Sg → Bool → Int
  | [], b => if b then 1 else -1
  | e :: r, b => if onS e q then 0 else locR q r (b ^^ rayP e q)
end Go.Pl
/- Lattice points on edges; convex polygons; the first vertex in order; rings that begin elsewhere. -/
set_option linter.unusedVariables false
namespace Go.Pl

theorem gcd_tmod (a b : Int) : Int.gcd b (a.tmod b) = Int.gcd a b := by
  rw [Int.gcd, Int.gcd, Int.natAbs_tmod, Nat.gcd_comm b.natAbs, ← Nat.gcd_rec, Nat.gcd_comm]
theorem tmod_lt {a b : Int} (h : b ≠ 0) : (a.tmod b).natAbs < b.natAbs := by
  rw [Int.natAbs_tmod]; exact Nat.mod_lt _ (by omega)
theorem gcd_zero (a : Int) : ((Int.gcd a 0 : Nat) : Int) = if a < 0 then -a else a := by
  rw [Int.gcd_zero_right]; split <;> omega
theorem gcd_abs (a b : Int) : Int.gcd (if a < 0 then -a else a) (if b < 0 then -b else b) = Int.gcd a b := by
  rw [Int.gcd, Int.gcd]; congr 1 <;> (split <;> omega)

/-- The lattice points on so many edges, each edge without its first end. -/
def lattN (l : List Pt) : Nat → Int
  | 0 => 0
  | i + 1 => lattN l i + ((Int.gcd ((edP l i).2.1 - (edP l i).1.1) ((edP l i).2.2 - (edP l i).1.2) : Nat) : Int)
def lattP (l : List Pt) : Int := lattN l l.length

/-- Is each turn at three vertices to the left? -/
def turnAt (l : List Pt) (i : Nat) : Int := turn (pA l i) (pA l ((i + 1) % l.length)) (pA l ((i + 2) % l.length))
def leftsP (l : List Pt) : Bool := (List.range l.length).all fun i => decide (0 < turnAt l i)
theorem lefts_iff {l : List Pt} : leftsP l = true ↔ ∀ i, i < l.length → 0 < turnAt l i := by simp [leftsP]
theorem lefts_no {l : List Pt} {i : Nat} (hi : i < l.length) (h : turnAt l i ≤ 0) : leftsP l = false := by
  rcases hb : leftsP l with _ | _
  · rfl
  · have := lefts_iff.1 hb i hi; omega
/-- The least sign of a point to so many edges. -/
def leastN (l : List Pt) (q : Pt) : Nat → Int
  | 0 => 1
  | i + 1 => min (leastN l q i) (sgnI (turn (edP l i).1 (edP l i).2 q))
end Go.Pl
/- Rings that begin with their first vertex in order. -/
set_option linter.unusedVariables false
namespace Go.Pl

/-- The first point in order. -/
def minP (l : List Pt) : Pt := (insP l).headD (0, 0)
theorem minP_mem {l : List Pt} (h : 0 < l.length) : minP l ∈ l := by
  have hne : insP l ≠ [] := by
    intro e
    match l, h with
    | x :: r, _ =>
      have : x ∈ insP (x :: r) := mem_insP.2 (by simp)
      rw [e] at this; cases this
  match hi : insP l, hne with
  | x :: r, _ =>
    have : x ∈ insP l := by rw [hi]; simp
    rw [minP, hi]
    exact mem_insP.1 this
theorem minP_le {l : List Pt} {x : Pt} (hx : x ∈ l) : ltP x (minP l) = false := by
  have hm : x ∈ insP l := mem_insP.2 hx
  have ha := asc_insP l
  match hi : insP l with
  | [] => rw [hi] at hm; cases hm
  | y :: r =>
    rw [minP, hi]
    rw [hi] at hm ha
    rcases List.mem_cons.1 hm with rfl | h
    · exact ltP_irrefl _
    · exact ltP_asymm ((List.pairwise_cons.1 ha).1 x h)
theorem min_unique {l : List Pt} {x : Pt} (hx : x ∈ l) (h : ∀ y ∈ l, ltP y x = false) : x = minP l := by
  have h0 : 0 < l.length := by
    rcases Nat.eq_zero_or_pos l.length with h | h
    · rw [List.length_eq_zero_iff.1 h] at hx; cases hx
    · exact h
  exact ltP_total (minP_le hx) (h _ (minP_mem h0))

/-- The i-th vertex of the ring, the other way round if asked. -/
def ordF (n : Nat) (neg : Bool) (i : Nat) : Nat := if neg then (n - i) % n else i
theorem ordF_lt {n i : Nat} {neg : Bool} (hi : i < n) : ordF n neg i < n := by
  unfold ordF; split
  · exact Nat.mod_lt _ (by omega)
  · exact hi
/-- So many steps of the search for the first point in order. -/
def kF (S : List Pt) : Nat → Nat
  | 0 => 0
  | i + 1 => if ltP (pA S i) (pA S (kF S i)) then i else kF S i
theorem kF_lt (S : List Pt) : ∀ i, 0 < S.length → i ≤ S.length → kF S i < S.length
  | 0, h, _ => h
  | i + 1, h, hi => by
    rw [kF]; split
    · omega
    · exact kF_lt S i h (by omega)
theorem kF_min (S : List Pt) : ∀ i j, j < i → ltP (pA S j) (pA S (kF S i)) = false
  | i + 1, j, hj => by
    rw [kF]
    split
    · rename_i h
      rcases Nat.lt_or_ge j i with c | c
      · cases hc : ltP (pA S j) (pA S i) with
        | false => rfl
        | true =>
          have := ltP_trans hc h
          rw [kF_min S i j c] at this; cases this
      · rw [show j = i by omega]; exact ltP_irrefl _
    · rename_i h
      rcases Nat.lt_or_ge j i with c | c
      · exact kF_min S i j c
      · rw [show j = i by omega]; simpa using h
theorem kF_at {S : List Pt} (h : 0 < S.length) : pA S (kF S S.length) = minP S := by
  refine min_unique (pA_mem (kF_lt S _ h (Nat.le_refl _))) ?_
  intro y hy
  obtain ⟨j, hj, rfl⟩ := mem_pA hy
  exact kF_min S _ _ hj
theorem minP_rev (l : List Pt) : minP l.reverse = minP l := by
  rw [minP, minP, insP_congr (m := l) (fun x => by simp)]

/-- The canonical ring: turned round if asked, from the first vertex in order on. -/
def turnedP (l : List Pt) (neg : Bool) : List Pt := if neg then l.reverse else l
def canR (l : List Pt) (neg : Bool) : List Pt := (turnedP l neg).drop (kF (turnedP l neg) (turnedP l neg).length) ++ (turnedP l neg).take (kF (turnedP l neg) (turnedP l neg).length)
theorem turned_len (l : List Pt) (neg : Bool) : (turnedP l neg).length = l.length := by unfold turnedP; split <;> simp
theorem turned_at {l : List Pt} {neg : Bool} {j : Nat} (hj : j < l.length) : pA (turnedP l neg) j = pA l (if neg then l.length - 1 - j else j) := by
  unfold turnedP
  cases neg with
  | false => rfl
  | true =>
    simp only [if_true]
    rw [pA, pA, List.getD, List.getD, List.getElem?_reverse hj]
theorem canR_len (l : List Pt) (neg : Bool) : (canR l neg).length = l.length := by
  unfold canR
  rw [List.length_append, List.length_drop, List.length_take, turned_len]; omega
theorem drop_take_at {S : List Pt} {k j : Nat} (hk : k < S.length) (hj : j < S.length) : pA (S.drop k ++ S.take k) j = pA S ((k + j) % S.length) := by
  rw [pA, pA, List.getD, List.getD]
  rcases Nat.lt_or_ge j (S.length - k) with c | c
  · rw [List.getElem?_append_left (by rw [List.length_drop]; exact c), List.getElem?_drop, Nat.mod_eq_of_lt (by omega)]
  · rw [List.getElem?_append_right (by rw [List.length_drop]; exact c), List.length_drop, List.getElem?_take_of_lt (by omega)]
    have : (k + j) % S.length = j - (S.length - k) := by
      rw [show k + j = (j - (S.length - k)) + S.length by omega, Nat.add_mod_right, Nat.mod_eq_of_lt (by omega)]
    rw [this]
theorem mod_succ {t n : Nat} (h : t < n) : (t + 1) % n = if t + 1 = n then 0 else t + 1 := by
  split
  · rename_i e; rw [e, Nat.mod_self]
  · exact Nat.mod_eq_of_lt (by omega)
theorem ord_rev {t n : Nat} (h : t < n) : ordF n true ((t + 1) % n) = n - 1 - t := by
  rw [ordF, if_pos rfl, mod_succ h]
  split
  · rw [Nat.sub_zero, Nat.mod_self]; omega
  · rw [Nat.mod_eq_of_lt (by omega)]; omega
theorem ord_inj {n i j : Nat} {neg : Bool} (hi : i < n) (hj : j < n) (h : ordF n neg i = ordF n neg j) : i = j := by
  cases neg with
  | false => exact h
  | true =>
    simp only [ordF, if_true] at h
    rcases Nat.eq_zero_or_pos i with a | a <;> rcases Nat.eq_zero_or_pos j with b | b
    · omega
    · subst a; rw [Nat.sub_zero, Nat.mod_self, Nat.mod_eq_of_lt (by omega)] at h; omega
    · subst b; rw [Nat.sub_zero, Nat.mod_self, Nat.mod_eq_of_lt (by omega)] at h; omega
    · rw [Nat.mod_eq_of_lt (by omega), Nat.mod_eq_of_lt (by omega)] at h; omega
theorem can_at {l : List Pt} {neg : Bool} (hnd : l.Nodup) {f : Nat} (hf : f < l.length) (hm : pA l (ordF l.length neg f) = minP l) {j : Nat} (hj : j < l.length) :
    pA (canR l neg) j = pA l (ordF l.length neg ((f + j) % l.length)) := by
  have hn : 0 < l.length := by omega
  obtain ⟨S, hS⟩ : ∃ S, turnedP l neg = S := ⟨_, rfl⟩
  have hl : S.length = l.length := by rw [← hS, turned_len]
  have hk := kF_lt S S.length (by omega) (Nat.le_refl _)
  have hkm := kF_at (S := S) (by omega)
  have hat : ∀ j, j < l.length → pA S j = pA l (if neg then l.length - 1 - j else j) := fun j h => by rw [← hS]; exact turned_at h
  have hmin : minP S = minP l := by
    rw [← hS]; unfold turnedP; split
    · exact minP_rev l
    · rfl
  unfold canR
  rw [hS, drop_take_at hk (by omega)]
  obtain ⟨k, hk0⟩ : ∃ k, kF S S.length = k := ⟨_, rfl⟩
  rw [hk0] at hk hkm ⊢
  rw [hat k (by omega), hmin] at hkm
  rw [hl]
  have ht : (k + j) % l.length < l.length := Nat.mod_lt _ hn
  rw [hat _ ht]
  cases neg with
  | false =>
    have : k = f := by
      refine pA_inj hnd (by omega) hf ?_
      rw [show (if false = true then l.length - 1 - k else k) = k from rfl] at hkm
      rw [hkm, ← hm]; rfl
    subst this; rfl
  | true =>
    simp only [if_true] at hkm ⊢
    have e : l.length - 1 - k = ordF l.length true f := by
      refine pA_inj hnd (by omega) (ordF_lt hf) ?_
      rw [hkm, hm]
    have hf2 : f = (k + 1) % l.length := by
      refine ord_inj (neg := true) hf (Nat.mod_lt _ hn) ?_
      rw [← e, ord_rev (by omega)]
    rw [← ord_rev ht]
    congr 2
    rw [hf2]
    rw [Nat.mod_add_mod, Nat.mod_add_mod]
    congr 1; omega
/-- The ring as it is gathered from an order of the vertices. -/
theorem can_eq {l : List Pt} {neg : Bool} (hnd : l.Nodup) {f : Nat} (hf : f < l.length) (hm : pA l (ordF l.length neg f) = minP l) :
    canR l neg = (List.range l.length).map fun j => pA l (ordF l.length neg ((f + j) % l.length)) := by
  refine List.ext_getElem (by rw [canR_len]; simp) ?_
  intro j h1 h2
  rw [canR_len] at h1
  have := can_at hnd hf hm h1
  rw [pA, List.getD, List.getElem?_eq_getElem (by rw [canR_len]; exact h1)] at this
  simpa using this
/-- The first vertex in order stands somewhere. -/
theorem ord_min {l : List Pt} (neg : Bool) (h : 0 < l.length) : ∃ f, f < l.length ∧ pA l (ordF l.length neg f) = minP l := by
  obtain ⟨i, hi, he⟩ := mem_pA (minP_mem h)
  cases neg with
  | false => exact ⟨i, hi, he⟩
  | true =>
    refine ⟨(l.length - 1 - i + 1) % l.length, Nat.mod_lt _ h, ?_⟩
    rw [ord_rev (by omega), show l.length - 1 - (l.length - 1 - i) = i by omega]
    exact he
end Go.Pl
/- Circles through three points; points in ascending order. -/
set_option linter.unusedVariables false
namespace Go.Pl

/-- Positive if d is inside of the circle through a, b, c, which are counterclockwise. -/
def inC (a b c d : Pt) : Int :=
  ((a.1 - d.1) * (a.1 - d.1) + (a.2 - d.2) * (a.2 - d.2)) * ((b.1 - d.1) * (c.2 - d.2) - (b.2 - d.2) * (c.1 - d.1))
  - ((b.1 - d.1) * (b.1 - d.1) + (b.2 - d.2) * (b.2 - d.2)) * ((a.1 - d.1) * (c.2 - d.2) - (a.2 - d.2) * (c.1 - d.1))
  + ((c.1 - d.1) * (c.1 - d.1) + (c.2 - d.2) * (c.2 - d.2)) * ((a.1 - d.1) * (b.2 - d.2) - (a.2 - d.2) * (b.1 - d.1))
theorem inC_alt (ax ay bx b_ cx cy : Int) : (ax * ax + ay * ay) * (bx * cy - b_ * cx) + (bx * bx + b_ * b_) * (cx * ay - cy * ax) + (cx * cx + cy * cy) * (ax * b_ - ay * bx)
    = (ax * ax + ay * ay) * (bx * cy - b_ * cx) - (bx * bx + b_ * b_) * (ax * cy - ay * cx) + (cx * cx + cy * cy) * (ax * b_ - ay * bx) := by grind

theorem asc_of_adj {l : List Pt} (h : ∀ i, i + 1 < l.length → ltP (pA l i) (pA l (i + 1)) = true) : Asc l := by
  have key : ∀ d i, i + d + 1 < l.length → ltP (pA l i) (pA l (i + d + 1)) = true := by
    intro d
    induction d with
    | zero => intro i hi; exact h i hi
    | succ d ih => intro i hi; exact ltP_trans (ih i (by omega)) (h (i + d + 1) (by omega))
  refine List.pairwise_iff_getElem.2 fun i j hi hj hij => ?_
  have := key (j - i - 1) i (by omega)
  rw [show i + (j - i - 1) + 1 = j by omega] at this
  simpa [pA, List.getD, hi, hj] using this
theorem adj_of_asc {l : List Pt} (h : Asc l) {i : Nat} (hi : i + 1 < l.length) : ltP (pA l i) (pA l (i + 1)) = true := by
  have := List.pairwise_iff_getElem.1 h i (i + 1) (by omega) hi (by omega)
  simpa [pA, List.getD, hi, show i < l.length by omega] using this
theorem asc_ins {l : List Pt} : l = insP l ↔ Asc l := ⟨fun h => by rw [h]; exact asc_insP l, fun h => (insP_of_asc h).symm⟩
end Go.Pl
/- Triangles: simple polygons, their areas and hulls. -/
set_option linter.unusedVariables false
namespace Go.Pl

theorem tri_ne {a b c : Pt} (h : turn a b c ≠ 0) : a ≠ b ∧ b ≠ c ∧ a ≠ c := by
  refine ⟨?_, ?_, ?_⟩ <;> (rintro rfl; apply h; unfold turn; grind)
theorem tri_nodup {a b c : Pt} (h : turn a b c ≠ 0) : [a, b, c].Nodup := by
  obtain ⟨h1, h2, h3⟩ := tri_ne h
  simp [h1, h2, h3]
theorem ins_len_nodup {l : List Pt} (h : l.Nodup) : (insP l).length = l.length :=
  Nat.le_antisymm (insP_len l) (nodup_len_le h fun x hx => mem_insP.2 hx)
theorem off_line {s : Sg} {p : Pt} (h : turn s.1 s.2 p ≠ 0) : onS s p = false := by
  unfold onS
  rw [show (turn s.1 s.2 p == 0) = false by simpa using h, Bool.false_and]
/-- Two sides of a triangle have one common end. -/
theorem ends_one {x y z : Pt} (h : turn x y z ≠ 0) : (endsP (y, z) (x, y)).length ≤ 1 := by
  have h2 : turn y z x ≠ 0 := by rw [turn_cyc]; exact h
  have hz : onS (x, y) z = false := off_line h
  have hx : onS (y, z) x = false := off_line h2
  have hall : ∀ p ∈ endsP (y, z) (x, y), p ∈ [y] := by
    intro p hp
    rw [endsP, mem_insP] at hp
    simp only [List.mem_filter, List.mem_cons, List.not_mem_nil, or_false, Bool.and_eq_true] at hp
    obtain ⟨h1 | h1 | h1 | h1, h3, h4⟩ := hp
    · simp [h1]
    · subst h1; rw [hz] at h4; cases h4
    · subst h1; rw [hx] at h3; cases h3
    · simp [h1]
  exact nodup_len_le (nodup_insP _) hall
theorem ends_comm (s t : Sg) : endsP s t = endsP t s := by
  unfold endsP
  refine insP_congr fun x => ?_
  simp only [List.mem_filter, List.mem_cons, List.not_mem_nil, or_false, Bool.and_eq_true]
  constructor
  · rintro ⟨h1 | h1 | h1 | h1, h2, h3⟩ <;> simp [h1, h2, h3] <;> (subst h1; exact ⟨h3, h2⟩)
  · rintro ⟨h1 | h1 | h1 | h1, h2, h3⟩ <;> simp [h1, h2, h3] <;> (subst h1; exact ⟨h3, h2⟩)
theorem rel_ne3 {s t : Sg} (h : (endsP s t).length ≤ 1) : (relP s t != 3) = true := by
  unfold relP
  rw [if_neg (by omega)]
  split
  · rfl
  · split <;> rfl
theorem tri_pairs {a b c : Pt} (h : turn a b c ≠ 0) : pairsP [a, b, c] = true := by
  have hb : turn b c a ≠ 0 := by rw [turn_cyc]; exact h
  have hc : turn c a b ≠ 0 := by rw [turn_cyc]; exact hb
  rw [pairs_iff]
  intro i hi k hk
  simp only [List.length_cons, List.length_nil] at hi
  have e0 : edP [a, b, c] 0 = (a, b) := by simp [edP, pA]
  have e1 : edP [a, b, c] 1 = (b, c) := by simp [edP, pA]
  have e2 : edP [a, b, c] 2 = (c, a) := by simp [edP, pA]
  have hcase : (i = 1 ∧ k = 0) ∨ (i = 2 ∧ k = 0) ∨ (i = 2 ∧ k = 1) := by omega
  rcases hcase with ⟨rfl, rfl⟩ | ⟨rfl, rfl⟩ | ⟨rfl, rfl⟩
  · rw [e1, e0]; rw [okS, show nextB ([a, b, c] : List Pt).length 1 0 = true by simp [nextB]]; exact rel_ne3 (ends_one h)
  · rw [e2, e0]; rw [okS, show nextB ([a, b, c] : List Pt).length 2 0 = true by simp [nextB]]; exact rel_ne3 (by rw [ends_comm]; exact ends_one hc)
  · rw [e2, e1]; rw [okS, show nextB ([a, b, c] : List Pt).length 2 1 = true by simp [nextB]]; exact rel_ne3 (ends_one hb)
theorem tri_lefts {a b c : Pt} : leftsP [a, b, c] = decide (0 < turn a b c) := by
  rw [Bool.eq_iff_iff, lefts_iff, decide_eq_true_eq]
  have t0 : turnAt [a, b, c] 0 = turn a b c := by simp [turnAt, pA]
  have t1 : turnAt [a, b, c] 1 = turn a b c := by
    have : turnAt [a, b, c] 1 = turn b c a := by simp [turnAt, pA]
    rw [this, turn_cyc]
  have t2 : turnAt [a, b, c] 2 = turn a b c := by
    have : turnAt [a, b, c] 2 = turn c a b := by simp [turnAt, pA]
    rw [this, turn_cyc, turn_cyc]
  constructor
  · intro h; rw [← t0]; exact h 0 (by simp)
  · intro h i hi
    simp only [List.length_cons, List.length_nil] at hi
    have hcase : i = 0 ∨ i = 1 ∨ i = 2 := by omega
    rcases hcase with rfl | rfl | rfl
    · rw [t0]; exact h
    · rw [t1]; exact h
    · rw [t2]; exact h
theorem tri_far {a b c : Pt} (h : turn a b c ≠ 0) : a ∈ hullP [a, b, c] := by
  have hb : turn b c a = turn a b c := turn_cyc a b c
  have key : ∀ s : Int, 0 < s * turn b c a → a ∈ hullP [a, b, c] := by
    intro s hs
    obtain ⟨v, hv, hle⟩ := hullP_sup [a, b, c] (-(s * (c.2 - b.2))) (s * (c.1 - b.1)) (q := a) (by simp)
    have hm := mem_hullP_sub hv
    have l1 : lin (-(s * (c.2 - b.2))) (s * (c.1 - b.1)) a = lin (-(s * (c.2 - b.2))) (s * (c.1 - b.1)) b + s * turn b c a := by unfold lin turn; grind
    have l2 : lin (-(s * (c.2 - b.2))) (s * (c.1 - b.1)) c = lin (-(s * (c.2 - b.2))) (s * (c.1 - b.1)) b := by unfold lin; grind
    simp only [List.mem_cons, List.not_mem_nil, or_false] at hm
    rcases hm with rfl | rfl | rfl
    · exact hv
    · omega
    · omega
  rw [hb] at key
  rcases Int.lt_or_gt_of_ne h with h1 | h1
  · exact key (-1) (by omega)
  · exact key 1 (by omega)
theorem tri_hull {a b c : Pt} (h : turn a b c ≠ 0) : (hullP [a, b, c]).length = 3 := by
  have hb : turn b c a ≠ 0 := by rw [turn_cyc]; exact h
  have hc : turn c a b ≠ 0 := by rw [turn_cyc]; exact hb
  have h1 := tri_far h
  have h2 : b ∈ hullP [a, b, c] := by
    rw [hullP_congr (m := [b, c, a]) (fun x => by simp; grind)]; exact tri_far hb
  have h3 : c ∈ hullP [a, b, c] := by
    rw [hullP_congr (m := [c, a, b]) (fun x => by simp; grind)]; exact tri_far hc
  refine Nat.le_antisymm (hullP_len _) ?_
  refine nodup_len_le (a := [a, b, c]) (tri_nodup h) ?_
  intro x hx
  simp only [List.mem_cons, List.not_mem_nil, or_false] at hx
  rcases hx with rfl | rfl | rfl
  · exact h1
  · exact h2
  · exact h3
end Go.Pl
