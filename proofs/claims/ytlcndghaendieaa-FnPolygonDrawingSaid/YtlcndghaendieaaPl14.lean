/- Fractions in lowest terms, points of fractions, their order. -/
import Derived.Test.YtlcndghaendieaaPl13
import Derived.Test.YtlcndghaendieaaPl8
set_option linter.unusedVariables false
namespace Go.Pl

abbrev QP := Pt × Pt
/-- A fraction in lowest terms that is not too large. -/
def okR (r : Pt) : Prop := 0 < r.2 ∧ r.2 ≤ 20000000 ∧ Int.gcd r.1 r.2 = 1 ∧ -20000000000 ≤ r.1 ∧ r.1 ≤ 20000000000
instance (r : Pt) : Decidable (okR r) := by unfold okR; exact inferInstance
def ltR (r s : Pt) : Bool := decide (r.1 * s.2 < s.1 * r.2)
theorem red_eq {r s : Pt} (hr : okR r) (hs : okR s) (h : r.1 * s.2 = s.1 * r.2) : r = s := by
  obtain ⟨r0, _, rg, _⟩ := hr
  obtain ⟨s0, _, sg, _⟩ := hs
  have n1 : r.1.natAbs * s.2.natAbs = s.1.natAbs * r.2.natAbs := by
    rw [← Int.natAbs_mul, ← Int.natAbs_mul, h]
  have c1 : Nat.Coprime r.2.natAbs r.1.natAbs := by rw [Nat.coprime_comm]; exact rg
  have c2 : Nat.Coprime s.2.natAbs s.1.natAbs := by rw [Nat.coprime_comm]; exact sg
  have d1 : r.2.natAbs ∣ s.2.natAbs := c1.dvd_of_dvd_mul_left ⟨s.1.natAbs, by rw [n1, Nat.mul_comm]⟩
  have d2 : s.2.natAbs ∣ r.2.natAbs := c2.dvd_of_dvd_mul_left ⟨r.1.natAbs, by rw [← n1, Nat.mul_comm]⟩
  have e2 : r.2 = s.2 := by have := Nat.dvd_antisymm d1 d2; omega
  have e1 : r.1 = s.1 := by
    rw [← e2] at h
    exact Int.eq_of_mul_eq_mul_right (by omega) h
  exact Prod.ext e1 e2
theorem ltR_trans {r s t : Pt} (hr : 0 < r.2) (hs : 0 < s.2) (ht : 0 < t.2) (h : r.1 * s.2 < s.1 * r.2) (k : s.1 * t.2 < t.1 * s.2) : r.1 * t.2 < t.1 * r.2 := by
  have h1 : r.1 * s.2 * t.2 < s.1 * r.2 * t.2 := Int.mul_lt_mul_of_pos_right h ht
  have h2 : s.1 * t.2 * r.2 < t.1 * s.2 * r.2 := Int.mul_lt_mul_of_pos_right k hr
  have e1 : s.1 * t.2 * r.2 = s.1 * r.2 * t.2 := by rw [Int.mul_assoc, Int.mul_comm t.2, ← Int.mul_assoc]
  rw [e1] at h2
  have h3 : r.1 * s.2 * t.2 < t.1 * s.2 * r.2 := Int.lt_trans h1 h2
  have h4 : (r.1 * t.2) * s.2 < (t.1 * r.2) * s.2 := by grind
  exact Int.lt_of_mul_lt_mul_right h4 (by omega)

/-- A point of good fractions. -/
def goodQ (q : QP) : Prop := okR q.1 ∧ okR q.2
instance (q : QP) : Decidable (goodQ q) := by unfold goodQ; exact inferInstance
def ltQ (p q : QP) : Bool := ltR p.1 q.1 || (decide (p.1.1 * q.1.2 = q.1.1 * p.1.2) && ltR p.2 q.2)
abbrev GQ := {q : QP // goodQ q}
def ltG (p q : GQ) : Bool := ltQ p.1 q.1
theorem totG : Tot ltG where
  irrefl x := by simp [ltG, ltQ, ltR]
  trans x y z h k := by
    simp only [ltG, ltQ, ltR, Bool.or_eq_true, Bool.and_eq_true, decide_eq_true_eq] at *
    have ⟨⟨x1, x2⟩, hx⟩ := x
    have ⟨⟨y1, y2⟩, hy⟩ := y
    have ⟨⟨z1, z2⟩, hz⟩ := z
    simp only [] at *
    rcases h with h | ⟨h1, h2⟩
    · rcases k with k | ⟨k1, k2⟩
      · exact .inl (ltR_trans hx.1.1 hy.1.1 hz.1.1 h k)
      · have := red_eq hy.1 hz.1 k1; subst this; exact .inl h
    · have := red_eq hx.1 hy.1 h1; subst this
      rcases k with k | ⟨k1, k2⟩
      · exact .inl k
      · have := red_eq hx.1 hz.1 k1; subst this
        exact .inr ⟨rfl, ltR_trans hx.2.1 hy.2.1 hz.2.1 h2 k2⟩
  total x y h k := by
    simp only [ltG, ltQ, ltR, Bool.or_eq_false_iff, Bool.and_eq_false_iff, decide_eq_false_iff_not] at h k
    have ⟨⟨x1, x2⟩, hx⟩ := x
    have ⟨⟨y1, y2⟩, hy⟩ := y
    simp only [] at *
    have e1 : x1 = y1 := red_eq hx.1 hy.1 (by omega)
    subst e1
    have e2 : x2 = y2 := red_eq hx.2 hy.2 (by rcases h.2 with a | a <;> rcases k.2 with b | b <;> omega)
    subst e2; rfl

/-- The good ones of a list. -/
def subQ : List QP → List GQ
  | [] => []
  | q :: l => if h : goodQ q then ⟨q, h⟩ :: subQ l else subQ l
def offG (l : List GQ) : List QP := l.map Subtype.val
theorem off_sub : ∀ {l : List QP}, (∀ q ∈ l, goodQ q) → offG (subQ l) = l
  | [], _ => rfl
  | q :: l, h => by
    rw [subQ, dif_pos (h q (by simp))]
    show q :: offG (subQ l) = q :: l
    rw [off_sub fun x hx => h x (by simp [hx])]
theorem sub_off : ∀ l : List GQ, subQ (offG l) = l
  | [] => rfl
  | q :: l => by
    show subQ (q.1 :: offG l) = q :: l
    rw [subQ, dif_pos q.2, sub_off l]
theorem off_good {l : List GQ} : ∀ q ∈ offG l, goodQ q := by
  intro q hq
  obtain ⟨x, _, rfl⟩ := List.mem_map.1 hq
  exact x.2
theorem off_len (l : List GQ) : (offG l).length = l.length := by simp [offG]
/-- Insertion, sort and compaction of lists of points of fractions. -/
def addQ (l : List QP) (p : QP) : List QP := addG ltQ p l
def sortQ (l : List QP) : List QP := offG ((subQ l).mergeSort fun x y => !ltG y x)
def compQ (l : List QP) : List QP := compG l
theorem addQ_off (p : GQ) : ∀ l : List GQ, addQ (offG l) p.1 = offG (addG ltG p l)
  | [] => rfl
  | x :: l => by
    show addG ltQ p.1 (x.1 :: offG l) = _
    rw [addG, addG]
    have e : ltG x p = ltQ x.1 p.1 := rfl
    rw [e]
    by_cases c : ltQ x.1 p.1 = true
    · rw [if_pos c, if_pos c]
      show x.1 :: addQ (offG l) p.1 = x.1 :: offG (addG ltG p l)
      rw [addQ_off p l]
    · rw [if_neg c, if_neg c]
      by_cases c2 : x = p
      · rw [if_pos c2, if_pos (by rw [c2])]; rfl
      · rw [if_neg c2, if_neg (fun h => c2 (Subtype.ext h))]; rfl
theorem cpG_off : ∀ (q : GQ) (l : List GQ), cpG q.1 (offG l) = offG (cpG q l)
  | q, [] => rfl
  | q, x :: l => by
    show cpG q.1 (x.1 :: offG l) = _
    rw [cpG, cpG]
    by_cases c : x = q
    · rw [if_pos c, if_pos (by rw [c]), cpG_off x l]
    · rw [if_neg c, if_neg (fun h => c (Subtype.ext h)), cpG_off x l]; rfl
theorem compQ_off (l : List GQ) : compQ (offG l) = offG (compG l) := by
  cases l with
  | nil => rfl
  | cons x l =>
    show x.1 :: cpG x.1 (offG l) = _
    rw [cpG_off]; rfl
/-- Sorted and compacted; inserted one by one: the same. -/
theorem comp_sortQ {l : List QP} (h : ∀ q ∈ l, goodQ q) : compQ (sortQ l) = l.foldl addQ [] := by
  have key : ∀ (m : List GQ) (a : List GQ), (offG m).foldl addQ (offG a) = offG (m.foldl (fun m p => addG ltG p m) a) := by
    intro m
    induction m with
    | nil => intro a; rfl
    | cons x m ih =>
      intro a
      show (offG m).foldl addQ (addQ (offG a) x.1) = _
      rw [addQ_off, ih]; rfl
  rw [sortQ, compQ_off, comp_sortG totG]
  have := key (subQ l) []
  rw [off_sub h] at this
  exact this.symm

/-- A quotient in lowest terms. -/
def redR (n d : Int) : Pt := (n.tdiv (Int.gcd n d), d.tdiv (Int.gcd n d))
theorem red_gcd {n d : Int} (hd : d ≠ 0) : 0 < (Int.gcd n d : Int) ∧ ∃ a b : Int, n = a * (Int.gcd n d : Int) ∧ d = b * (Int.gcd n d : Int) ∧ redR n d = (a, b) ∧ Int.gcd a b = 1 := by
  have hg : 0 < Int.gcd n d := Int.gcd_pos_of_ne_zero_right n hd
  obtain ⟨a, ha⟩ := Int.gcd_dvd_left (a := n) (b := d)
  obtain ⟨b, hb⟩ := Int.gcd_dvd_right (a := n) (b := d)
  obtain ⟨g, hgg⟩ : ∃ g : Nat, Int.gcd n d = g := ⟨_, rfl⟩
  rw [hgg] at ha hb hg
  have hg2 : (0 : Int) < (g : Int) := by omega
  have e1 : redR n d = (a, b) := by
    unfold redR
    rw [hgg, ha, hb]
    rw [Int.mul_tdiv_cancel_left _ (by omega), Int.mul_tdiv_cancel_left _ (by omega)]
  refine ⟨by omega, a, b, by rw [hgg, Int.mul_comm]; exact ha, by rw [hgg, Int.mul_comm]; exact hb, e1, ?_⟩
  have : g * Int.gcd a b = g * 1 := by
    rw [Nat.mul_one]
    have h2 := hgg
    rw [ha, hb, Int.gcd_mul_left] at h2
    simpa using h2
  exact Nat.eq_of_mul_eq_mul_left hg this
end Go.Pl
