/- Plain mathematics (Pl13, Pl14, Pl15, Pl16, Pl17, Pl18, Pl21, Pl22, Pl23, Pl25, Pl30). -/
import Derived.Test.YtggigfogckeamaaDoorPl11
import Derived.Test.YtggigfogckeamaaDoorPl22
/- Ordered lists without repetition, in general: inserted one by one, or sorted and compacted. -/
set_option linter.unusedVariables false
set_option linter.unusedSectionVars false
namespace Go.Pl

section
variable {α : Type} [DecidableEq α] (lt : α → α → Bool)
/-- A strict total order. -/
structure Tot : Prop where
  irrefl : ∀ x, lt x x = false
  trans : ∀ x y z, lt x y = true → lt y z = true → lt x z = true
  total : ∀ x y, lt x y = false → lt y x = false → x = y
def AscG (l : List α) : Prop := l.Pairwise fun a b => lt a b = true
/-- A point put at its place, unless it is there. -/
def addG (p : α) : List α → List α
  | [] => [p]
  | x :: l => if lt x p then x :: addG p l else if x = p then x :: l else p :: x :: l
def insG (l : List α) : List α := l.foldl (fun m p => addG lt p m) []
/-- Neighbours that are equal are taken once. -/
def cpG : α → List α → List α
  | _, [] => []
  | q, x :: l => if x = q then cpG x l else x :: cpG x l
def compG : List α → List α
  | [] => []
  | x :: l => x :: cpG x l
variable {lt}
theorem mem_addG {p x : α} : ∀ {l : List α}, x ∈ addG lt p l ↔ x = p ∨ x ∈ l
  | [] => by simp [addG]
  | y :: l => by
    rw [addG]
    split
    · rw [List.mem_cons, mem_addG, List.mem_cons]
      constructor
      · rintro (h | h | h)
        · exact .inr (.inl h)
        · exact .inl h
        · exact .inr (.inr h)
      · rintro (h | h | h)
        · exact .inr (.inl h)
        · exact .inl h
        · exact .inr (.inr h)
    · split
      · rename_i h; subst h; simp
      · simp
variable (T : Tot lt)
include T
theorem Tot.asymm {x y : α} (h : lt x y = true) : lt y x = false := by
  cases hc : lt y x with
  | false => rfl
  | true => have := T.trans _ _ _ h hc; rw [T.irrefl] at this; cases this
theorem asc_addG {p : α} : ∀ {l : List α}, AscG lt l → AscG lt (addG lt p l)
  | [], _ => by simp [addG, AscG]
  | y :: l, h => by
    have h1 := List.pairwise_cons.1 h
    rw [addG]
    split
    · rename_i hy
      refine List.pairwise_cons.2 ⟨fun a ha => ?_, asc_addG h1.2⟩
      rcases mem_addG.1 ha with rfl | ha
      · exact hy
      · exact h1.1 a ha
    · split
      · exact h
      · rename_i hy hne
        have hp : lt p y = true := by
          cases hc : lt p y with
          | true => rfl
          | false => exact absurd (T.total _ _ (by simpa using hy) hc) hne
        refine List.pairwise_cons.2 ⟨fun a ha => ?_, h⟩
        rcases List.mem_cons.1 ha with rfl | ha
        · exact hp
        · exact T.trans _ _ _ hp (h1.1 a ha)
theorem fold_addG : ∀ {l m : List α}, AscG lt m → AscG lt (l.foldl (fun m p => addG lt p m) m) ∧ ∀ x, x ∈ l.foldl (fun m p => addG lt p m) m ↔ x ∈ l ∨ x ∈ m
  | [], m, h => ⟨h, fun x => by simp⟩
  | y :: l, m, h => by
    obtain ⟨h1, h2⟩ := fold_addG (l := l) (asc_addG T (p := y) h)
    refine ⟨h1, fun x => ?_⟩
    rw [List.foldl_cons, h2, mem_addG, List.mem_cons]
    constructor
    · rintro (h | h | h)
      · exact .inl (.inr h)
      · exact .inl (.inl h)
      · exact .inr h
    · rintro ((h | h) | h)
      · exact .inr (.inl h)
      · exact .inl h
      · exact .inr (.inr h)
theorem asc_insG (l : List α) : AscG lt (insG lt l) := (fold_addG T (l := l) (m := []) List.Pairwise.nil).1
theorem mem_insG {l : List α} {x : α} : x ∈ insG lt l ↔ x ∈ l := by
  have := (fold_addG T (l := l) (m := []) List.Pairwise.nil).2 x
  simpa [insG] using this
theorem asc_uniqueG : ∀ {a b : List α}, AscG lt a → AscG lt b → (∀ x, x ∈ a ↔ x ∈ b) → a = b
  | [], [], _, _, _ => rfl
  | [], y :: b, _, _, h => absurd ((h y).2 (by simp)) (by simp)
  | x :: a, [], _, _, h => absurd ((h x).1 (by simp)) (by simp)
  | x :: a, y :: b, ha, hb, h => by
    have h1 := List.pairwise_cons.1 ha
    have h2 := List.pairwise_cons.1 hb
    have hxy : x = y := by
      rcases List.mem_cons.1 ((h x).1 (by simp)) with e | e
      · exact e
      · rcases List.mem_cons.1 ((h y).2 (by simp)) with e2 | e2
        · exact e2.symm
        · have := T.asymm (h1.1 y e2)
          rw [h2.1 x e] at this; cases this
    subst hxy
    rw [asc_uniqueG h1.2 h2.2 fun z => ?_]
    have hz := h z
    simp only [List.mem_cons] at hz
    constructor
    · intro hm
      rcases hz.1 (.inr hm) with e | e
      · subst e; have := h1.1 z hm; rw [T.irrefl] at this; cases this
      · exact e
    · intro hm
      rcases hz.2 (.inr hm) with e | e
      · subst e; have := h2.1 z hm; rw [T.irrefl] at this; cases this
      · exact e
theorem cpG_spec : ∀ {l : List α} {q : α}, (q :: l).Pairwise (fun a b => lt b a = false) → AscG lt (q :: cpG q l) ∧ ∀ x, x ∈ q :: cpG q l ↔ x ∈ q :: l
  | [], q, _ => by simp [cpG, AscG]
  | y :: l, q, h => by
    have hq := List.pairwise_cons.1 h
    obtain ⟨h1, h2⟩ := cpG_spec hq.2
    rw [cpG]
    split
    · rename_i e; subst e
      refine ⟨h1, fun x => ?_⟩
      rw [h2]; simp
    · rename_i hne
      have hqy : lt q y = true := by
        cases hc : lt q y with
        | true => rfl
        | false => exact absurd (T.total _ _ (hq.1 y (by simp)) hc) hne
      refine ⟨List.pairwise_cons.2 ⟨fun a ha => ?_, h1⟩, fun x => ?_⟩
      · rcases List.mem_cons.1 ha with rfl | ha
        · exact hqy
        · exact T.trans _ _ _ hqy ((List.pairwise_cons.1 h1).1 a ha)
      · rw [List.mem_cons, h2]; simp
theorem compG_spec {l : List α} (h : l.Pairwise (fun a b => lt b a = false)) : AscG lt (compG l) ∧ ∀ x, x ∈ compG l ↔ x ∈ l := by
  cases l with
  | nil => simp [compG, AscG]
  | cons x l => exact cpG_spec T h
/-- Sorted and compacted is the same as inserted one by one. -/
theorem comp_sortG (l : List α) : compG (l.mergeSort fun x y => !lt y x) = insG lt l := by
  have hs : (l.mergeSort fun x y => !lt y x).Pairwise (fun a b => lt b a = false) := by
    have := List.pairwise_mergeSort (le := fun x y => !lt y x) (fun a b c h1 h2 => by
      simp only [Bool.not_eq_true'] at *
      cases hc : lt c a with
      | false => rfl
      | true =>
        cases hab : lt a b with
        | true => have := T.trans _ _ _ hc hab; rw [this] at h2; cases h2
        | false => have := T.total _ _ hab h1; subst this; rw [hc] at h2; cases h2)
      (fun a b => by
        cases h1 : lt b a with
        | false => rfl
        | true => simp [T.asymm h1]) l
    refine this.imp fun h => by simpa using h
  obtain ⟨h1, h2⟩ := compG_spec T hs
  exact asc_uniqueG T h1 (asc_insG T l) fun x => by rw [h2, mem_insG T, List.mem_mergeSort]
end
end Go.Pl
/- Fractions in lowest terms, points of fractions, their order. -/
set_option linter.unusedVariables false
namespace Go.Pl

abbrev QP := Pt × Pt
/-- A fraction in lowest terms that is not too large. -/
def okR (r : Pt) : Prop := 0 < r.2 ∧ r.2 ≤ 20000000 ∧ Int.gcd r.1 r.2 = 1 ∧ -20000000000 ≤ r.1 ∧ r.1 ≤ 20000000000
instance (r : Pt) : Decidable (okR r) := by unfold okR; exact inferInstance
def ltR (r s : Pt) : Bool := decide (r.1 * s.2 < s.1 * r.2)
theorem red_eq {r s : Pt} (hr : okR r) (hs : okR s) (h : r.1 * s.2 = s.1 * r.2) : r = s := by
  obtain ⟨r0, _, rg, _⟩ := hr
  obtain ⟨s0, _, sg, _⟩ := hs
  have n1 : r.1.natAbs * s.2.natAbs = s.1.natAbs * r.2.natAbs := by
    rw [← Int.natAbs_mul, ← Int.natAbs_mul, h]
  have c1 : Nat.Coprime r.2.natAbs r.1.natAbs := by rw [Nat.coprime_comm]; exact rg
  have c2 : Nat.Coprime s.2.natAbs s.1.natAbs := by rw [Nat.coprime_comm]; exact sg
  have d1 : r.2.natAbs ∣ s.2.natAbs := c1.dvd_of_dvd_mul_left ⟨s.1.natAbs, by rw [n1, Nat.mul_comm]⟩
  have d2 : s.2.natAbs ∣ r.2.natAbs := c2.dvd_of_dvd_mul_left ⟨r.1.natAbs, by rw [← n1, Nat.mul_comm]⟩
  have e2 : r.2 = s.2 := by have := Nat.dvd_antisymm d1 d2; omega
  have e1 : r.1 = s.1 := by
    rw [← e2] at h
    exact Int.eq_of_mul_eq_mul_right (by omega) h
  exact Prod.ext e1 e2
theorem ltR_trans {r s t : Pt} (hr : 0 < r.2) (hs : 0 < s.2) (ht : 0 < t.2) (h : r.1 * s.2 < s.1 * r.2) (k : s.1 * t.2 < t.1 * s.2) : r.1 * t.2 < t.1 * r.2 := by
  have h1 : r.1 * s.2 * t.2 < s.1 * r.2 * t.2 := Int.mul_lt_mul_of_pos_right h ht
  have h2 : s.1 * t.2 * r.2 < t.1 * s.2 * r.2 := Int.mul_lt_mul_of_pos_right k hr
  have e1 : s.1 * t.2 * r.2 = s.1 * r.2 * t.2 := by rw [Int.mul_assoc, Int.mul_comm t.2, ← Int.mul_assoc]
  rw [e1] at h2
  have h3 : r.1 * s.2 * t.2 < t.1 * s.2 * r.2 := Int.lt_trans h1 h2
  have h4 : (r.1 * t.2) * s.2 < (t.1 * r.2) * s.2 := by grind
  exact Int.lt_of_mul_lt_mul_right h4 (by omega)

/-- A point of good fractions. -/
def goodQ (q : QP) : Prop := okR q.1 ∧ okR q.2
instance (q : QP) : Decidable (goodQ q) := by unfold goodQ; exact inferInstance
def ltQ (p q : QP) : Bool := ltR p.1 q.1 || (decide (p.1.1 * q.1.2 = q.1.1 * p.1.2) && ltR p.2 q.2)
abbrev GQ := {q : QP // goodQ q}
def ltG (p q : GQ) : Bool := ltQ p.1 q.1
theorem totG : Tot ltG where
  irrefl x := by simp [ltG, ltQ, ltR]
  trans x y z h k := by
    simp only [ltG, ltQ, ltR, Bool.or_eq_true, Bool.and_eq_true, decide_eq_true_eq] at *
    have ⟨⟨x1, x2⟩, hx⟩ := x
    have ⟨⟨y1, y2⟩, hy⟩ := y
    have ⟨⟨z1, z2⟩, hz⟩ := z
    simp only [] at *
    rcases h with h | ⟨h1, h2⟩
    · rcases k with k | ⟨k1, k2⟩
      · exact .inl (ltR_trans hx.1.1 hy.1.1 hz.1.1 h k)
      · have := red_eq hy.1 hz.1 k1; subst this; exact .inl h
    · have := red_eq hx.1 hy.1 h1; subst this
      rcases k with k | ⟨k1, k2⟩
      · exact .inl k
      · have := red_eq hx.1 hz.1 k1; subst this
        exact .inr ⟨rfl, ltR_trans hx.2.1 hy.2.1 hz.2.1 h2 k2⟩
  total x y h k := by
    simp only [ltG, ltQ, ltR, Bool.or_eq_false_iff, Bool.and_eq_false_iff, decide_eq_false_iff_not] at h k
    have ⟨⟨x1, x2⟩, hx⟩ := x
    have ⟨⟨y1, y2⟩, hy⟩ := y
    simp only [] at *
    have e1 : x1 = y1 := red_eq hx.1 hy.1 (by omega)
    subst e1
    have e2 : x2 = y2 := red_eq hx.2 hy.2 (by rcases h.2 with a | a <;> rcases k.2 with b | b <;> omega)
    subst e2; rfl

/-- The good ones of a list. -/
def subQ : List QP → List GQ
  | [] => []
  | q :: l => if h : goodQ q then ⟨q, h⟩ :: subQ l else subQ l
def offG (l : List GQ) : List QP := l.map Subtype.val
theorem off_sub : ∀ {l : List QP}, (∀ q ∈ l, goodQ q) → offG (subQ l) = l
  | [], _ => rfl
  | q :: l, h => by
    rw [subQ, dif_pos (h q (by simp))]
    show q :: offG (subQ l) = q :: l
    rw [off_sub fun x hx => h x (by simp [hx])]
theorem sub_off : ∀ l : List GQ, subQ (offG l) = l
  | [] => rfl
  | q :: l => by
    show subQ (q.1 :: offG l) = q :: l
    rw [subQ, dif_pos q.2, sub_off l]
theorem off_good {l : List GQ} : ∀ q ∈ offG l, goodQ q := by
  intro q hq
  obtain ⟨x, _, rfl⟩ := List.mem_map.1 hq
  exact x.2
theorem off_len (l : List GQ) : (offG l).length = l.length := by simp [offG]
/-- Insertion, sort and compaction of lists of points of fractions. -/
def addQ (l : List QP) (p : QP) : List QP := addG ltQ p l
def sortQ (l : List QP) : List QP := offG ((subQ l).mergeSort fun x y => !ltG y x)
def compQ (l : List QP) : List QP := compG l
theorem addQ_off (p : GQ) : ∀ l : List GQ, addQ (offG l) p.1 = offG (addG ltG p l)
  | [] => rfl
  | x :: l => by
    show addG ltQ p.1 (x.1 :: offG l) = _
    rw [addG, addG]
    have e : ltG x p = ltQ x.1 p.1 := rfl
    rw [e]
    by_cases c : ltQ x.1 p.1 = true
    · rw [if_pos c, if_pos c]
      show x.1 :: addQ (offG l) p.1 = x.1 :: offG (addG ltG p l)
      rw [addQ_off p l]
    · rw [if_neg c, if_neg c]
      by_cases c2 : x = p
      · rw [if_pos c2, if_pos (by rw [c2])]; rfl
      · rw [if_neg c2, if_neg (fun h => c2 (Subtype.ext h))]; rfl
theorem cpG_off : ∀ (q : GQ) (l : List GQ), cpG q.1 (offG l) = offG (cpG q l)
  | q, [] => rfl
  | q, x :: l => by
    show cpG q.1 (x.1 :: offG l) = _
    rw [cpG, cpG]
    by_cases c : x = q
    · rw [if_pos c, if_pos (by rw [c]), cpG_off x l]
    · rw [if_neg c, if_neg (fun h => c (Subtype.ext h)), cpG_off x l]; rfl
theorem compQ_off (l : List GQ) : compQ (offG l) = offG (compG l) := by
  cases l with
  | nil => rfl
  | cons x l =>
    show x.1 :: cpG x.1 (offG l) = _
    rw [cpG_off]; rfl
/-- Sorted and compacted; inserted one by one: the same. -/
theorem comp_sortQ {l : List QP} (h : ∀ q ∈ l, goodQ q) : compQ (sortQ l) = l.foldl addQ [] := by
  have key : ∀ (m : List GQ) (a : List GQ), (offG m).foldl addQ (offG a) = offG (m.foldl (fun m p => addG ltG p m) a) := by
    intro m
    induction m with
    | nil => intro a; rfl
    | cons x m ih =>
      intro a
      show (offG m).foldl addQ (addQ (offG a) x.1) = _
      rw [addQ_off, ih]; rfl
  rw [sortQ, compQ_off, comp_sortG totG]
  have := key (subQ l) []
  rw [off_sub h] at this
  exact this.symm

/-- A quotient in lowest terms. -/
def redR (n d : Int) : Pt := (n.tdiv (Int.gcd n d), d.tdiv (Int.gcd n d))
theorem red_gcd {n d : Int} (hd : d ≠ 0) : 0 < (Int.gcd n d : Int) ∧ ∃ a b : Int, n = a * (Int.gcd n d : Int) ∧ d = b * (Int.gcd n d : Int) ∧ redR n d = (a, b) ∧ Int.gcd a b = 1 := by
  have hg : 0 < Int.gcd n d := Int.gcd_pos_of_ne_zero_right n hd
  obtain ⟨a, ha⟩ := Int.gcd_dvd_left (a := n) (b := d)
  obtain ⟨b, hb⟩ := Int.gcd_dvd_right (a := n) (b := d)
  obtain ⟨g, hgg⟩ : ∃ g : Nat, Int.gcd n d = g := ⟨_, rfl⟩
  rw [hgg] at ha hb hg
  have hg2 : (0 : Int) < (g : Int) := by omega
  have e1 : redR n d = (a, b) := by
    unfold redR
    rw [hgg, ha, hb]
    rw [Int.mul_tdiv_cancel_left _ (by omega), Int.mul_tdiv_cancel_left _ (by omega)]
  refine ⟨by omega, a, b, by rw [hgg, Int.mul_comm]; exact ha, by rw [hgg, Int.mul_comm]; exact hb, e1, ?_⟩
  have : g * Int.gcd a b = g * 1 := by
    rw [Nat.mul_one]
    have h2 := hgg
    rw [ha, hb, Int.gcd_mul_left] at h2
    simpa using h2
  exact Nat.eq_of_mul_eq_mul_left hg this
end Go.Pl
/- Corners of a region of half-planes. -/
set_option linter.unusedVariables false
namespace Go.Pl

abbrev Hf := Int × Int × Int
def boxL : List Hf := [(1, 0, 1000), (-1, 0, 1000), (0, 1, 1000), (0, -1, 1000)]
def denH (g h : Hf) : Int := g.1 * h.2.1 - h.1 * g.2.1
def xH (g h : Hf) : Int := g.2.2 * h.2.1 - h.2.2 * g.2.1
def yH (g h : Hf) : Int := g.1 * h.2.2 - h.1 * g.2.2
def hasH (x y d : Int) (k : Hf) : Bool := decide (k.1 * x + k.2.1 * y ≤ k.2.2 * d)
/-- A number, its sign turned if asked. -/
def sgT (neg : Bool) (x : Int) : Int := if neg then -x else x
/-- The point in which the boundaries of two half-planes meet, if it is one of the region. -/
def candL (all : List Hf) (g h : Hf) : List QP :=
  let s := decide (denH g h < 0)
  if denH g h = 0 then [] else
  if all.all (hasH (sgT s (xH g h)) (sgT s (yH g h)) (sgT s (denH g h))) then [(redR (sgT s (xH g h)) (sgT s (denH g h)), redR (sgT s (yH g h)) (sgT s (denH g h)))] else []
abbrev hAt (l : List Hf) (i : Nat) : Hf := l.getD i (0, 0, 0)
def rawRow (all : List Hf) (i : Nat) : Nat → List QP
  | 0 => []
  | k + 1 => rawRow all i k ++ candL all (hAt all i) (hAt all k)
def rawAll (all : List Hf) : Nat → List QP
  | 0 => []
  | i + 1 => rawAll all i ++ rawRow all i i
/-- A half-plane whose numbers are not too large. -/
def smH (k : Hf) : Prop := (-2000 ≤ k.1 ∧ k.1 ≤ 2000) ∧ (-2000 ≤ k.2.1 ∧ k.2.1 ≤ 2000) ∧ (-4000000 ≤ k.2.2 ∧ k.2.2 ≤ 4000000)
theorem sgT_pos {d : Int} (h : d ≠ 0) : 0 < sgT (decide (d < 0)) d := by
  unfold sgT; by_cases c : d < 0
  · rw [if_pos (by simpa using c)]; omega
  · rw [if_neg (by simpa using c)]; omega
theorem sgT_bd {s : Bool} {x A : Int} (h : -A ≤ x ∧ x ≤ A) : -A ≤ sgT s x ∧ sgT s x ≤ A := by unfold sgT; split <;> omega
theorem mulB {x y A B : Int} (hx : -A ≤ x ∧ x ≤ A) (hy : -B ≤ y ∧ y ≤ B) : -(A * B) ≤ x * y ∧ x * y ≤ A * B := by
  have hA : 0 ≤ A := by omega
  have hB : 0 ≤ B := by omega
  have h1 := Int.mul_nonneg (a := A - x) (b := B - y) (by omega) (by omega)
  have h2 := Int.mul_nonneg (a := A + x) (b := B + y) (by omega) (by omega)
  have h3 := Int.mul_nonneg (a := A - x) (b := B + y) (by omega) (by omega)
  have h4 := Int.mul_nonneg (a := A + x) (b := B - y) (by omega) (by omega)
  constructor <;> grind
theorem den_bd {g h : Hf} (hg : smH g) (hh : smH h) : -8000000 ≤ denH g h ∧ denH g h ≤ 8000000 := by
  have h1 := mulB hg.1 hh.2.1
  have h2 := mulB hh.1 hg.2.1
  unfold denH; omega
theorem x_bd {g h : Hf} (hg : smH g) (hh : smH h) : -16000000000 ≤ xH g h ∧ xH g h ≤ 16000000000 := by
  have h1 := mulB hg.2.2 hh.2.1
  have h2 := mulB hh.2.2 hg.2.1
  unfold xH; omega
theorem y_bd {g h : Hf} (hg : smH g) (hh : smH h) : -16000000000 ≤ yH g h ∧ yH g h ≤ 16000000000 := by
  have h1 := mulB hg.1 hh.2.2
  have h2 := mulB hh.1 hg.2.2
  unfold yH; omega
theorem red_good {n d : Int} (hd : 0 < d) (h2 : d ≤ 20000000) (hn : -20000000000 ≤ n ∧ n ≤ 20000000000) : okR (redR n d) := by
  obtain ⟨hg, a, b, ha, hb, hr, hc⟩ := red_gcd (n := n) (d := d) (by omega)
  obtain ⟨g, hgg⟩ : ∃ g : Int, (Int.gcd n d : Int) = g := ⟨_, rfl⟩
  rw [hgg] at ha hb hg
  rw [hr]
  have hb0 : 0 < b := by
    by_cases h : 0 < b
    · exact h
    · have := Int.mul_nonneg (a := -b) (b := g) (by omega) (by omega)
      have e : -b * g = -(b * g) := Int.neg_mul b g
      omega
  have k1 : b ≤ b * g := by
    have := Int.mul_nonneg (a := b) (b := g - 1) (by omega) (by omega)
    rw [Int.mul_sub, Int.mul_one] at this; omega
  have k2 : a.natAbs ≤ n.natAbs := by
    rw [ha, Int.natAbs_mul]
    exact Nat.le_mul_of_pos_right _ (by omega)
  refine ⟨hb0, by simp only []; omega, hc, ?_, ?_⟩ <;> (simp only []; omega)
theorem cand_good {all : List Hf} {g h : Hf} (hg : smH g) (hh : smH h) : ∀ q ∈ candL all g h, goodQ q := by
  intro q hq
  unfold candL at hq
  simp only [] at hq
  split at hq
  · cases hq
  · rename_i h0
    split at hq
    · simp only [List.mem_cons, List.not_mem_nil, or_false] at hq
      subst hq
      have hp := sgT_pos h0
      have b1 := sgT_bd (s := decide (denH g h < 0)) (den_bd hg hh)
      have b2 := sgT_bd (s := decide (denH g h < 0)) (x_bd hg hh)
      have b3 := sgT_bd (s := decide (denH g h < 0)) (y_bd hg hh)
      exact ⟨red_good hp (by omega) (by omega), red_good hp (by omega) (by omega)⟩
    · cases hq
theorem row_good {all : List Hf} (ha : ∀ i, smH (hAt all i)) (i : Nat) : ∀ k, ∀ q ∈ rawRow all i k, goodQ q
  | 0, q, hq => by cases hq
  | k + 1, q, hq => by
    rw [rawRow, List.mem_append] at hq
    rcases hq with h | h
    · exact row_good ha i k q h
    · exact cand_good (ha i) (ha k) q h
theorem raw_good {all : List Hf} (ha : ∀ i, smH (hAt all i)) : ∀ i, ∀ q ∈ rawAll all i, goodQ q
  | 0, q, hq => by cases hq
  | i + 1, q, hq => by
    rw [rawAll, List.mem_append] at hq
    rcases hq with h | h
    · exact raw_good ha i q h
    · exact row_good ha i i q h
theorem cand_len (all : List Hf) (g h : Hf) : (candL all g h).length ≤ 1 := by
  unfold candL; simp only []; split
  · simp
  · split <;> simp
theorem row_len (all : List Hf) (i : Nat) : ∀ k, (rawRow all i k).length ≤ k
  | 0 => Nat.le_refl _
  | k + 1 => by
    have h1 := row_len all i k
    have h2 := cand_len all (hAt all i) (hAt all k)
    rw [rawRow, List.length_append]; omega
theorem raw_len (all : List Hf) : ∀ i, (rawAll all i).length ≤ i * i
  | 0 => Nat.le_refl _
  | i + 1 => by
    have h1 := raw_len all i
    have h2 := row_len all i i
    rw [rawAll, List.length_append, Nat.succ_mul, Nat.mul_succ]; omega
/-- The corners, in order. -/
def cornP (l : List Hf) : List QP := (rawAll (l ++ boxL) (l ++ boxL).length).foldl addQ []

/-! a half-plane and a point in lowest terms -/
/-- The sign of a half-plane at a point of fractions, over the least common multiple of the denominators. -/
def lcD (p : QP) : Int := p.1.2.tdiv (Int.gcd p.1.2 p.2.2)
def sideQ (k : Hf) (p : QP) : Int := k.1 * (p.1.1 * p.2.2.tdiv (Int.gcd p.1.2 p.2.2)) + k.2.1 * (p.2.1 * p.1.2.tdiv (Int.gcd p.1.2 p.2.2)) - k.2.2 * p.1.2.tdiv (Int.gcd p.1.2 p.2.2) * p.2.2
end Go.Pl
/- Corners of half-planes: the reference's question and the program's are the same. -/
set_option linter.unusedVariables false
namespace Go.Pl

theorem red_self (a b : Int) : redR a b = (a.tdiv (Int.gcd a b), b.tdiv (Int.gcd a b)) := rfl
/-- Two fractions with one positive denominator, over the least one. -/
theorem com_den {x y d : Int} (hd : 0 < d) : ∃ m b1 b2 : Int, 0 < m ∧ redR (redR x d).2 (redR y d).2 = (b1, b2) ∧ 0 < b1 ∧ 0 < b2 ∧ 0 < (redR x d).2 ∧ 0 < (redR y d).2
    ∧ x = (redR x d).1 * b2 * m ∧ y = (redR y d).1 * b1 * m ∧ d = b1 * (redR y d).2 * m ∧ (redR x d).2 * b2 = b1 * (redR y d).2 := by
  obtain ⟨h1, a, b, ha, hb, hr, _⟩ := red_gcd (n := x) (d := d) (by omega)
  obtain ⟨h2, a', b', ha', hb', hr', _⟩ := red_gcd (n := y) (d := d) (by omega)
  obtain ⟨g1, hg1⟩ : ∃ g : Int, (Int.gcd x d : Int) = g := ⟨_, rfl⟩
  obtain ⟨g2, hg2⟩ : ∃ g : Int, (Int.gcd y d : Int) = g := ⟨_, rfl⟩
  rw [hg1] at ha hb h1
  rw [hg2] at ha' hb' h2
  rw [hr, hr']
  have pos : ∀ {u v : Int}, 0 < v → 0 < u * v → 0 < u := fun hv h => by
    rename_i u v
    by_cases c : 0 < u
    · exact c
    · have := Int.mul_nonneg (a := -u) (b := v) (by omega) (by omega)
      have e : -u * v = -(u * v) := Int.neg_mul u v
      omega
  have hb0 : 0 < b := pos h1 (by rw [← hb]; exact hd)
  have hb0' : 0 < b' := pos h2 (by rw [← hb']; exact hd)
  obtain ⟨h3, c, c', hc, hc', hr2, hcop⟩ := red_gcd (n := b) (d := b') (by omega)
  obtain ⟨g, hg⟩ : ∃ g : Int, (Int.gcd b b' : Int) = g := ⟨_, rfl⟩
  rw [hg] at hc hc' h3
  have hc0 : 0 < c := pos h3 (by rw [← hc]; exact hb0)
  have hc0' : 0 < c' := pos h3 (by rw [← hc']; exact hb0')
  have key : c * g1 = c' * g2 := by
    have e : g * (c * g1) = g * (c' * g2) := by
      have : b * g1 = b' * g2 := by rw [← hb, ← hb']
      rw [hc, hc'] at this
      grind
    exact Int.eq_of_mul_eq_mul_left (by omega) e
  have hdvd : c' ∣ g1 := by
    have n1 : c'.natAbs ∣ c.natAbs * g1.natAbs := by
      rw [← Int.natAbs_mul, key, Int.natAbs_mul]; exact Nat.dvd_mul_right _ _
    have n2 : Nat.Coprime c'.natAbs c.natAbs := by rw [Nat.coprime_comm]; exact hcop
    exact Int.natAbs_dvd_natAbs.1 (n2.dvd_of_dvd_mul_left n1)
  obtain ⟨m, hm⟩ := hdvd
  have hm0 : 0 < m := pos hc0' (by rw [Int.mul_comm, ← hm]; exact h1)
  have hg2' : g2 = c * m := by
    rw [hm] at key
    have : c' * (c * m) = c' * g2 := by rw [← key]; grind
    exact (Int.eq_of_mul_eq_mul_left (by omega) this).symm
  refine ⟨m, c, c', hm0, hr2, hc0, hc0', hb0, hb0', ?_, ?_, ?_, ?_⟩
  · simp only []; rw [ha, hm]; grind
  · simp only []; rw [ha', hg2']; grind
  · simp only []; rw [hb', hg2']; grind
  · simp only []; rw [hc, hc']; grind
/-- A point of fractions in the square of valid points. -/
def sqQ (p : QP) : Prop := 0 < p.1.2 ∧ 0 < p.2.2 ∧ p.1.2 ≤ 20000000 ∧ p.2.2 ≤ 20000000 ∧ (-(1000 * p.1.2) ≤ p.1.1 ∧ p.1.1 ≤ 1000 * p.1.2) ∧ (-(1000 * p.2.2) ≤ p.2.1 ∧ p.2.1 ≤ 1000 * p.2.2) ∧ (redR p.1.2 p.2.2).1 * p.2.2 ≤ 20000000
theorem side_eq (k : Hf) (p : QP) : sideQ k p = k.1 * (p.1.1 * (redR p.1.2 p.2.2).2) + k.2.1 * (p.2.1 * (redR p.1.2 p.2.2).1) - k.2.2 * (redR p.1.2 p.2.2).1 * p.2.2 := rfl
theorem has_side {x y d : Int} (hd : 0 < d) (k : Hf) : hasH x y d k = decide (sideQ k (redR x d, redR y d) ≤ 0) := by
  obtain ⟨m, b1, b2, hm, hr, h1, h2, h3, h4, hx, hy, hdd, _⟩ := com_den (x := x) (y := y) hd
  rw [side_eq]
  simp only []
  rw [hr]
  simp only []
  obtain ⟨p1, hp1⟩ : ∃ p1, (redR x d).1 = p1 := ⟨_, rfl⟩
  obtain ⟨q1, hq1⟩ : ∃ q1, (redR y d).1 = q1 := ⟨_, rfl⟩
  obtain ⟨q2, hq2⟩ : ∃ q2, (redR y d).2 = q2 := ⟨_, rfl⟩
  rw [hp1] at hx ⊢
  rw [hq1] at hy ⊢
  rw [hq2] at hdd ⊢
  have e : k.1 * x + k.2.1 * y - k.2.2 * d = (k.1 * (p1 * b2) + k.2.1 * (q1 * b1) - k.2.2 * b1 * q2) * m := by
    conv => lhs; rw [hx, hy, hdd]
    grind
  obtain ⟨S, hS⟩ : ∃ S, k.1 * (p1 * b2) + k.2.1 * (q1 * b1) - k.2.2 * b1 * q2 = S := ⟨_, rfl⟩
  rw [hS] at e ⊢
  rw [hasH]
  have h0 : (S ≤ 0) ↔ (k.1 * x + k.2.1 * y ≤ k.2.2 * d) := by
    constructor
    · intro h
      have := Int.mul_nonneg (a := -S) (b := m) (by omega) (by omega)
      have e2 : -S * m = -(S * m) := Int.neg_mul S m
      omega
    · intro h
      by_cases c : S ≤ 0
      · exact c
      · have := Int.mul_pos (a := S) (b := m) (by omega) hm
        omega
  rw [Bool.eq_iff_iff, decide_eq_true_iff, decide_eq_true_iff]; exact h0.symm
theorem red_sq1 {x d L : Int} (hd : 0 < d) : (-(L * (redR x d).2) ≤ (redR x d).1 ∧ (redR x d).1 ≤ L * (redR x d).2) ↔ (-(L * d) ≤ x ∧ x ≤ L * d) := by
  obtain ⟨h1, a, b, ha, hb, hr, _⟩ := red_gcd (n := x) (d := d) (by omega)
  obtain ⟨g1, hg1⟩ : ∃ g : Int, (Int.gcd x d : Int) = g := ⟨_, rfl⟩
  rw [hg1] at ha hb h1
  rw [hr]
  simp only []
  have e1 : L * d - x = (L * b - a) * g1 := by rw [ha, hb]; grind
  have e2 : L * d + x = (L * b + a) * g1 := by rw [ha, hb]; grind
  have key : ∀ S : Int, 0 ≤ S ↔ 0 ≤ S * g1 := fun S => by
    constructor
    · intro h; exact Int.mul_nonneg h (by omega)
    · intro h
      by_cases c : 0 ≤ S
      · exact c
      · have := Int.mul_pos (a := -S) (b := g1) (by omega) h1
        have e : -S * g1 = -(S * g1) := Int.neg_mul S g1
        omega
  have k1 := key (L * b - a)
  have k2 := key (L * b + a)
  rw [← e1] at k1
  rw [← e2] at k2
  obtain ⟨u, hu⟩ : ∃ u, L * b = u := ⟨_, rfl⟩
  obtain ⟨v, hv⟩ : ∃ v, L * d = v := ⟨_, rfl⟩
  rw [hu] at k1 k2 ⊢
  rw [hv] at k1 k2 ⊢
  omega
/-- What the reference asks of a point. -/
def sqB (p : QP) : Bool := decide (-(1000 * p.1.2) ≤ p.1.1 ∧ p.1.1 ≤ 1000 * p.1.2) && decide (-(1000 * p.2.2) ≤ p.2.1 ∧ p.2.1 ≤ 1000 * p.2.2)
def insH (all : List Hf) (p : QP) : Bool := all.all fun k => decide (sideQ k p ≤ 0)
theorem ins_has {x y d : Int} (hd : 0 < d) (all : List Hf) : insH all (redR x d, redR y d) = all.all (hasH x y d) := by
  unfold insH
  congr 1
  funext k
  exact (has_side hd k).symm
theorem sq_has {x y d : Int} (hd : 0 < d) {all : List Hf} (hb : ∀ k ∈ boxL, k ∈ all) (h : all.all (hasH x y d) = true) : sqB (redR x d, redR y d) = true := by
  rw [List.all_eq_true] at h
  have h1 := h _ (hb (1, 0, 1000) (by simp [boxL]))
  have h2 := h _ (hb (-1, 0, 1000) (by simp [boxL]))
  have h3 := h _ (hb (0, 1, 1000) (by simp [boxL]))
  have h4 := h _ (hb (0, -1, 1000) (by simp [boxL]))
  simp only [hasH, decide_eq_true_eq] at h1 h2 h3 h4
  simp only [sqB, Bool.and_eq_true, decide_eq_true_eq]
  exact ⟨(red_sq1 hd).2 (by omega), (red_sq1 hd).2 (by omega)⟩
theorem cand_ask {x y d : Int} (hd : 0 < d) {all : List Hf} (hb : ∀ k ∈ boxL, k ∈ all) : (sqB (redR x d, redR y d) && insH all (redR x d, redR y d)) = all.all (hasH x y d) := by
  rw [ins_has hd]
  cases h : all.all (hasH x y d) with
  | true => rw [sq_has hd hb h]; rfl
  | false => simp
theorem sq_red {x y d : Int} (hd : 0 < d) (h2 : d ≤ 20000000) (h : sqB (redR x d, redR y d) = true) : sqQ (redR x d, redR y d) := by
  obtain ⟨m, b1, b2, hm, hr, h1, h2', h3, h4, hx, hy, hdd, he⟩ := com_den (x := x) (y := y) hd
  simp only [sqB, Bool.and_eq_true, decide_eq_true_eq] at h
  have hp : 0 < b1 * (redR y d).2 := Int.mul_pos h1 h4
  have k1 : b1 * (redR y d).2 ≤ d := by
    have := Int.mul_nonneg (a := b1 * (redR y d).2) (b := m - 1) (by omega) (by omega)
    rw [Int.mul_sub, Int.mul_one, ← hdd] at this; omega
  have k2 : (redR y d).2 ≤ b1 * (redR y d).2 := by
    have := Int.mul_nonneg (a := b1 - 1) (b := (redR y d).2) (by omega) (by omega)
    rw [Int.sub_mul, Int.one_mul] at this; omega
  have k3 : (redR x d).2 ≤ (redR x d).2 * b2 := by
    have := Int.mul_nonneg (a := (redR x d).2) (b := b2 - 1) (by omega) (by omega)
    rw [Int.mul_sub, Int.mul_one] at this; omega
  refine ⟨h3, h4, by simp only []; omega, by simp only []; omega, h.1, h.2, ?_⟩
  simp only []
  rw [hr]; simp only []; omega
/-- What is needed to compute the side of a point. -/
theorem sq_facts {p : QP} (h : sqQ p) : ∃ b1 b2 : Int, redR p.1.2 p.2.2 = (b1, b2) ∧ 0 < b1 ∧ 0 < b2 ∧ p.1.2 * b2 = b1 * p.2.2 ∧ b1 * p.2.2 ≤ 20000000 ∧ b1 ≤ 20000000 ∧ b2 ≤ 20000000 ∧ (-20000000000 ≤ p.1.1 * b2 ∧ p.1.1 * b2 ≤ 20000000000) ∧ (-20000000000 ≤ p.2.1 * b1 ∧ p.2.1 * b1 ≤ 20000000000) ∧ (b1 * p.2.2).tdiv p.1.2 = b2 ∧ (b1 * p.2.2).tdiv p.2.2 = b1 := by
  obtain ⟨h1, h2, h3, h4, h5, h6, h7⟩ := h
  obtain ⟨k1, c, c', hc, hc', hr, _⟩ := red_gcd (n := p.1.2) (d := p.2.2) (by omega)
  obtain ⟨g, hg⟩ : ∃ g : Int, (Int.gcd p.1.2 p.2.2 : Int) = g := ⟨_, rfl⟩
  rw [hg] at hc hc' k1
  rw [hr] at h7
  simp only [] at h7
  have pos : ∀ {u v : Int}, 0 < v → 0 < u * v → 0 < u := fun hv h => by
    rename_i u v
    by_cases c : 0 < u
    · exact c
    · have := Int.mul_nonneg (a := -u) (b := v) (by omega) (by omega)
      have e : -u * v = -(u * v) := Int.neg_mul u v
      omega
  have hc0 : 0 < c := pos k1 (by rw [← hc]; exact h1)
  have hc0' : 0 < c' := pos k1 (by rw [← hc']; exact h2)
  have he : p.1.2 * c' = c * p.2.2 := by
    conv => lhs; rw [hc]
    conv => rhs; rw [hc']
    grind
  have l1 : c ≤ c * p.2.2 := by
    have := Int.mul_nonneg (a := c) (b := p.2.2 - 1) (by omega) (by omega)
    rw [Int.mul_sub, Int.mul_one] at this; omega
  have l2 : c' ≤ p.1.2 * c' := by
    have := Int.mul_nonneg (a := p.1.2 - 1) (b := c') (by omega) (by omega)
    rw [Int.sub_mul, Int.one_mul] at this; omega
  have m1 : -(1000 * (p.1.2 * c')) ≤ p.1.1 * c' ∧ p.1.1 * c' ≤ 1000 * (p.1.2 * c') := by
    have a1 := Int.mul_nonneg (a := 1000 * p.1.2 - p.1.1) (b := c') (by omega) (by omega)
    have a2 := Int.mul_nonneg (a := 1000 * p.1.2 + p.1.1) (b := c') (by omega) (by omega)
    rw [Int.sub_mul, Int.mul_assoc] at a1
    rw [Int.add_mul, Int.mul_assoc] at a2
    omega
  have m2 : -(1000 * (c * p.2.2)) ≤ p.2.1 * c ∧ p.2.1 * c ≤ 1000 * (c * p.2.2) := by
    have a1 := Int.mul_nonneg (a := 1000 * p.2.2 - p.2.1) (b := c) (by omega) (by omega)
    have a2 := Int.mul_nonneg (a := 1000 * p.2.2 + p.2.1) (b := c) (by omega) (by omega)
    rw [Int.sub_mul, Int.mul_assoc, Int.mul_comm p.2.2 c] at a1
    rw [Int.add_mul, Int.mul_assoc, Int.mul_comm p.2.2 c] at a2
    omega
  refine ⟨c, c', hr, hc0, hc0', he, h7, by omega, by omega, by omega, by omega, ?_, ?_⟩
  · rw [← he]; exact Int.mul_tdiv_cancel_left _ (by omega)
  · exact Int.mul_tdiv_cancel _ (by omega)
/-- The corners are in the square. -/
theorem corn_sq {l : List Hf} (hs : ∀ i, smH (hAt (l ++ boxL) i)) : ∀ q ∈ cornP l, sqQ q := by
  have hb : ∀ k ∈ boxL, k ∈ l ++ boxL := fun k hk => by simp [hk]
  have c1 : ∀ g h, smH g → smH h → ∀ q ∈ candL (l ++ boxL) g h, sqQ q := by
    intro g h hg hh q hq
    unfold candL at hq
    simp only [] at hq
    split at hq
    · cases hq
    · rename_i h0
      split at hq
      · rename_i ha
        simp only [List.mem_cons, List.not_mem_nil, or_false] at hq
        subst hq
        have hp := sgT_pos h0
        have b1 := sgT_bd (s := decide (denH g h < 0)) (den_bd hg hh)
        exact sq_red hp (by omega) (sq_has hp hb ha)
      · cases hq
  have c2 : ∀ i k, ∀ q ∈ rawRow (l ++ boxL) i k, sqQ q := by
    intro i k
    induction k with
    | zero => intro q hq; cases hq
    | succ k ih =>
      intro q hq
      rw [rawRow, List.mem_append] at hq
      rcases hq with h | h
      · exact ih q h
      · exact c1 _ _ (hs i) (hs k) q h
  have c3 : ∀ i, ∀ q ∈ rawAll (l ++ boxL) i, sqQ q := by
    intro i
    induction i with
    | zero => intro q hq; cases hq
    | succ i ih =>
      intro q hq
      rw [rawAll, List.mem_append] at hq
      rcases hq with h | h
      · exact ih q h
      · exact c2 i i q h
  intro q hq
  unfold cornP at hq
  have c4 : ∀ (m : List QP) (a : List QP), (∀ q ∈ a, sqQ q) → (∀ q ∈ m, sqQ q) → ∀ q ∈ m.foldl addQ a, sqQ q := by
    intro m
    induction m with
    | nil => intro a ha _ q hq; exact ha q hq
    | cons x m ih =>
      intro a ha hm q hq
      rw [List.foldl_cons] at hq
      refine ih (addQ a x) (fun z hz => ?_) (fun z hz => hm z (by simp [hz])) q hq
      rcases (mem_addG (lt := ltQ)).1 hz with h | h
      · subst h; exact hm z (by simp)
      · exact ha z h
  exact c4 _ [] (fun q hq => by cases hq) (c3 _) q hq
end Go.Pl
/- A region that has a point has a corner, one that is no lower; the highest corner. -/
set_option linter.unusedVariables false
namespace Go.Pl

def dotH (k : Hf) (u v : Int) : Int := k.1 * u + k.2.1 * v
def gapH (k : Hf) (x y d : Int) : Int := k.2.2 * d - (k.1 * x + k.2.1 * y)
theorem has_gap {k : Hf} {x y d : Int} : hasH x y d k = true ↔ 0 ≤ gapH k x y d := by
  unfold hasH gapH; rw [decide_eq_true_iff]; omega
/-- One of those that a ray comes to is the first. -/
theorem first_hit (x y d u v : Int) : ∀ L : List Hf, (∀ k ∈ L, 0 ≤ gapH k x y d) → (∃ k ∈ L, 0 < dotH k u v) → ∃ k ∈ L, 0 < dotH k u v ∧ ∀ j ∈ L, 0 < dotH j u v → gapH k x y d * dotH j u v ≤ gapH j x y d * dotH k u v
  | [], _, h => by obtain ⟨k, hk, _⟩ := h; cases hk
  | a :: L, hg, h => by
    by_cases hL : ∃ k ∈ L, 0 < dotH k u v
    · obtain ⟨k, hk, hp, hm⟩ := first_hit x y d u v L (fun k hk => hg k (by simp [hk])) hL
      by_cases ha : 0 < dotH a u v
      · by_cases hc : gapH k x y d * dotH a u v ≤ gapH a x y d * dotH k u v
        · refine ⟨k, by simp [hk], hp, fun j hj hjp => ?_⟩
          rcases List.mem_cons.1 hj with rfl | hj
          · exact hc
          · exact hm j hj hjp
        · refine ⟨a, by simp, ha, fun j hj hjp => ?_⟩
          rcases List.mem_cons.1 hj with rfl | hj
          · exact Int.le_refl _
          · have h1 := hm j hj hjp
            have h2 : gapH a x y d * dotH k u v ≤ gapH k x y d * dotH a u v := by omega
            have h3 := Int.mul_le_mul_of_nonneg_right h2 (show 0 ≤ dotH j u v by omega)
            have h4 := Int.mul_le_mul_of_nonneg_right h1 (show 0 ≤ dotH a u v by omega)
            have h5 : (gapH a x y d * dotH j u v) * dotH k u v ≤ (gapH j x y d * dotH a u v) * dotH k u v := by grind
            exact Int.le_of_mul_le_mul_right h5 hp
      · refine ⟨k, by simp [hk], hp, fun j hj hjp => ?_⟩
        rcases List.mem_cons.1 hj with rfl | hj
        · exact absurd hjp ha
        · exact hm j hj hjp
    · obtain ⟨k, hk, hp⟩ := h
      rcases List.mem_cons.1 hk with rfl | hk
      · refine ⟨k, by simp, hp, fun j hj hjp => ?_⟩
        rcases List.mem_cons.1 hj with rfl | hj
        · exact Int.le_refl _
        · exact absurd ⟨j, hj, hjp⟩ hL
      · exact absurd ⟨k, hk, hp⟩ hL
/-- Along a ray to the boundary. -/
theorem ray {all : List Hf} (hb : ∀ k ∈ boxL, k ∈ all) {x y d u v : Int} (hd : 0 < d) (h : all.all (hasH x y d) = true) (hw : u ≠ 0 ∨ v ≠ 0) :
    ∃ k ∈ all, ∃ e n : Int, 0 < e ∧ 0 ≤ n ∧ 0 < dotH k u v ∧ gapH k (x * e + n * u) (y * e + n * v) (d * e) = 0 ∧ all.all (hasH (x * e + n * u) (y * e + n * v) (d * e)) = true := by
  rw [List.all_eq_true] at h
  have hg : ∀ k ∈ all, 0 ≤ gapH k x y d := fun k hk => has_gap.1 (h k hk)
  have hex : ∃ k ∈ all, 0 < dotH k u v := by
    by_cases u1 : 0 < u
    · exact ⟨(1, 0, 1000), hb _ (by simp [boxL]), by simp only [dotH]; omega⟩
    · by_cases u2 : u < 0
      · exact ⟨(-1, 0, 1000), hb _ (by simp [boxL]), by simp only [dotH]; omega⟩
      · by_cases v1 : 0 < v
        · exact ⟨(0, 1, 1000), hb _ (by simp [boxL]), by simp only [dotH]; omega⟩
        · exact ⟨(0, -1, 1000), hb _ (by simp [boxL]), by simp only [dotH]; omega⟩
  obtain ⟨k, hk, hp, hm⟩ := first_hit x y d u v all hg hex
  have key : ∀ j : Hf, gapH j (x * dotH k u v + gapH k x y d * u) (y * dotH k u v + gapH k x y d * v) (d * dotH k u v) = gapH j x y d * dotH k u v - gapH k x y d * dotH j u v := by
    intro j
    generalize gapH k x y d = n
    generalize dotH k u v = e
    unfold gapH dotH; grind
  refine ⟨k, hk, dotH k u v, gapH k x y d, hp, hg k hk, hp, ?_, ?_⟩
  · rw [key]; exact Int.sub_self _
  · rw [List.all_eq_true]
    intro j hj
    rw [has_gap, key]
    have h0 := hg k hk
    by_cases hjp : 0 < dotH j u v
    · have := hm j hj hjp; omega
    · have h1 := Int.mul_nonneg (hg j hj) (show 0 ≤ dotH k u v by omega)
      have h2 := Int.mul_nonneg h0 (show 0 ≤ -dotH j u v by omega)
      rw [Int.mul_neg] at h2
      omega
/-- From every point to one on two boundaries that is no lower. -/
theorem to_corner {all : List Hf} (hb : ∀ k ∈ boxL, k ∈ all) {x y d : Int} (hd : 0 < d) (h : all.all (hasH x y d) = true) :
    ∃ g ∈ all, ∃ k ∈ all, denH g k ≠ 0 ∧ ∃ x' y' d' : Int, 0 < d' ∧ gapH g x' y' d' = 0 ∧ gapH k x' y' d' = 0 ∧ all.all (hasH x' y' d') = true ∧ y * d' ≤ y' * d := by
  obtain ⟨g, hg, e, n, he, hn, hp, ht, ha⟩ := ray hb hd h (u := 0) (v := 1) (.inr (by decide))
  have hb0 : 0 < g.2.1 := by unfold dotH at hp; omega
  have hd1 : 0 < d * e := Int.mul_pos hd he
  obtain ⟨s, hs⟩ : ∃ s : Int, s = if 0 ≤ g.1 then 1 else -1 := ⟨_, rfl⟩
  have hs1 : s * s = 1 ∧ 0 ≤ s * g.1 := by
    by_cases c : 0 ≤ g.1
    · rw [if_pos c] at hs; subst hs; exact ⟨rfl, by omega⟩
    · rw [if_neg c] at hs; subst hs; exact ⟨rfl, by omega⟩
  have hsn : s ≠ 0 := by intro h0; rw [h0] at hs1; simp at hs1
  obtain ⟨x1, hx1⟩ : ∃ z, x * e + n * 0 = z := ⟨_, rfl⟩
  obtain ⟨y1, hy1⟩ : ∃ z, y * e + n * 1 = z := ⟨_, rfl⟩
  obtain ⟨d1, hdd⟩ : ∃ z, d * e = z := ⟨_, rfl⟩
  rw [hx1, hy1, hdd] at ht ha
  rw [hdd] at hd1
  obtain ⟨k, hk, e', n', he', hn', hp', ht', ha'⟩ := ray hb hd1 ha (u := -(s * g.2.1)) (v := s * g.1) (.inl (by have := Int.mul_ne_zero hsn (show g.2.1 ≠ 0 by omega); omega))
  have hdot : dotH k (-(s * g.2.1)) (s * g.1) = s * denH g k := by unfold dotH denH; grind
  refine ⟨g, hg, k, hk, ?_, _, _, _, Int.mul_pos hd1 he', ?_, ht', ha', ?_⟩
  · intro h0
    rw [hdot, h0] at hp'; simp at hp'
  · have : gapH g (x1 * e' + n' * -(s * g.2.1)) (y1 * e' + n' * (s * g.1)) (d1 * e') = gapH g x1 y1 d1 * e' := by unfold gapH; grind
    rw [this, ht]; exact Int.zero_mul _
  · have q1 : 0 ≤ n' * (s * g.1) * d := Int.mul_nonneg (Int.mul_nonneg hn' hs1.2) (by omega)
    have q2 : 0 ≤ n * e' * d := Int.mul_nonneg (Int.mul_nonneg hn (by omega)) (by omega)
    have : (y1 * e' + n' * (s * g.1)) * d = y * (d1 * e') + n * e' * d + n' * (s * g.1) * d := by rw [← hy1, ← hdd]; grind
    rw [this]; omega
theorem has_scale {x y d X Y D : Int} (hd : 0 < d) (hD : 0 < D) (hx : x * D = X * d) (hy : y * D = Y * d) (k : Hf) : hasH x y d k = hasH X Y D k := by
  have e : gapH k x y d * D = gapH k X Y D * d := by unfold gapH; grind
  have h1 : (0 ≤ gapH k x y d) ↔ (0 ≤ gapH k X Y D) := by
    constructor
    · intro h
      have := Int.mul_nonneg h (show 0 ≤ D by omega)
      rw [e] at this
      exact Int.le_of_mul_le_mul_right (by rw [Int.zero_mul]; exact this) hd
    · intro h
      have := Int.mul_nonneg h (show 0 ≤ d by omega)
      rw [← e] at this
      exact Int.le_of_mul_le_mul_right (by rw [Int.zero_mul]; exact this) hD
  rw [Bool.eq_iff_iff, has_gap, has_gap]; exact h1
theorem hAt_mem {all : List Hf} {k : Hf} (h : k ∈ all) : ∃ i, i < all.length ∧ hAt all i = k := by
  obtain ⟨i, hi, rfl⟩ := List.mem_iff_getElem.1 h
  exact ⟨i, hi, by simp [List.getD, hi]⟩
theorem mem_row {all : List Hf} {i j : Nat} {q : QP} (h : q ∈ candL all (hAt all i) (hAt all j)) : ∀ k, j < k → q ∈ rawRow all i k
  | 0, hk => absurd hk (Nat.not_lt_zero _)
  | k + 1, hk => by
    rw [rawRow, List.mem_append]
    by_cases e : j = k
    · subst e; exact .inr h
    · exact .inl (mem_row h k (by omega))
theorem mem_raw {all : List Hf} {i : Nat} {q : QP} (h : q ∈ rawRow all i i) : ∀ n, i < n → q ∈ rawAll all n
  | 0, hk => absurd hk (Nat.not_lt_zero _)
  | n + 1, hk => by
    rw [rawAll, List.mem_append]
    by_cases e : i = n
    · subst e; exact .inr h
    · exact .inl (mem_raw h n (by omega))
theorem mem_foldQ {q : QP} : ∀ (m a : List QP), q ∈ m.foldl addQ a ↔ q ∈ m ∨ q ∈ a
  | [], a => by simp
  | x :: m, a => by
    rw [List.foldl_cons, mem_foldQ m, List.mem_cons]
    have := mem_addG (lt := ltQ) (p := x) (x := q) (l := a)
    constructor
    · rintro (h | h)
      · exact .inl (.inr h)
      · rcases this.1 h with h | h
        · exact .inl (.inl h)
        · exact .inr h
    · rintro ((h | h) | h)
      · exact .inr (this.2 (.inl h))
      · exact .inl h
      · exact .inr (this.2 (.inr h))
theorem mem_corn {l : List Hf} {q : QP} : q ∈ cornP l ↔ q ∈ rawAll (l ++ boxL) (l ++ boxL).length := by
  unfold cornP; rw [mem_foldQ]; simp
theorem denH_symm (g k : Hf) : denH k g = -denH g k := by unfold denH; grind
/-- What lies on two boundaries that are not parallel. -/
theorem cramer {g k : Hf} {x y d : Int} (h1 : gapH g x y d = 0) (h2 : gapH k x y d = 0) : x * denH g k = xH g k * d ∧ y * denH g k = yH g k * d := by
  unfold gapH at h1 h2
  have e1 : g.2.2 * d = g.1 * x + g.2.1 * y := by omega
  have e2 : k.2.2 * d = k.1 * x + k.2.1 * y := by omega
  unfold denH xH yH
  constructor <;> grind
theorem sgT_mul (s : Bool) (x y : Int) : x * sgT s y = sgT s (x * y) := by unfold sgT; split <;> simp [Int.mul_neg]
theorem mul_sgT (s : Bool) (x y : Int) : sgT s x * y = sgT s (x * y) := by unfold sgT; split <;> simp [Int.neg_mul]
theorem red_ge {y d Y D : Int} (hd : 0 < d) (hD : 0 < D) {y0 d0 : Int} (hd0 : 0 < d0) (hy : y * D = Y * d) (h : y0 * d ≤ y * d0) : y0 * (redR Y D).2 ≤ (redR Y D).1 * d0 := by
  obtain ⟨h1, a, b, ha, hb, hr, _⟩ := red_gcd (n := Y) (d := D) (by omega)
  obtain ⟨g1, hg1⟩ : ∃ g : Int, (Int.gcd Y D : Int) = g := ⟨_, rfl⟩
  rw [hg1] at ha hb h1
  rw [hr]
  simp only []
  have e1 : (y0 * b) * (d * g1) = (y0 * d) * D := by rw [hb]; grind
  have e2 : (a * d0) * (d * g1) = (y * d0) * D := by
    have : (y * d0) * D = (y * D) * d0 := by grind
    rw [this, hy, ha]; grind
  have h3 : (y0 * b) * (d * g1) ≤ (a * d0) * (d * g1) := by
    rw [e1, e2]; exact Int.mul_le_mul_of_nonneg_right h (by omega)
  exact Int.le_of_mul_le_mul_right h3 (Int.mul_pos hd h1)
/-- A region that has a point has a corner that is no lower. -/
theorem corner_above {l : List Hf} {x y d : Int} (hd : 0 < d) (h : (l ++ boxL).all (hasH x y d) = true) : ∃ q ∈ cornP l, y * q.2.2 ≤ q.2.1 * d := by
  have hb : ∀ k ∈ boxL, k ∈ l ++ boxL := fun k hk => by simp [hk]
  obtain ⟨g, hg, k, hk, hden, x', y', d', hd', t1, t2, ha, hy⟩ := to_corner hb hd h
  obtain ⟨i, hi, ei⟩ := hAt_mem hg
  obtain ⟨j, hj, ej⟩ := hAt_mem hk
  have main : ∀ (i j : Nat) (g k : Hf), j < i → i < (l ++ boxL).length → hAt (l ++ boxL) i = g → hAt (l ++ boxL) j = k → denH g k ≠ 0 → gapH g x' y' d' = 0 → gapH k x' y' d' = 0 → ∃ q ∈ cornP l, y * q.2.2 ≤ q.2.1 * d := by
    intro i j g k hji hi ei ej hden t1 t2
    obtain ⟨c1, c2⟩ := cramer t1 t2
    have hp := sgT_pos hden
    obtain ⟨s, hs⟩ : ∃ s, decide (denH g k < 0) = s := ⟨_, rfl⟩
    rw [hs] at hp
    have s1 : x' * sgT s (denH g k) = sgT s (xH g k) * d' := by rw [sgT_mul, mul_sgT, c1]
    have s2 : y' * sgT s (denH g k) = sgT s (yH g k) * d' := by rw [sgT_mul, mul_sgT, c2]
    have hall : (l ++ boxL).all (hasH (sgT s (xH g k)) (sgT s (yH g k)) (sgT s (denH g k))) = true := by
      rw [List.all_eq_true] at ha ⊢
      intro z hz
      rw [← has_scale hd' hp s1 s2]; exact ha z hz
    refine ⟨(redR (sgT s (xH g k)) (sgT s (denH g k)), redR (sgT s (yH g k)) (sgT s (denH g k))), ?_, ?_⟩
    · rw [mem_corn]
      refine mem_raw (i := i) (mem_row (j := j) ?_ i hji) _ hi
      rw [ei, ej]
      unfold candL
      simp only [hs]
      rw [if_neg hden, if_pos hall]; simp
    · exact red_ge hd' hp hd s2 hy
  rcases Nat.lt_trichotomy j i with c | c | c
  · exact main i j g k c hi ei ej hden t1 t2
  · subst c
    rw [ei] at ej; subst ej
    exact absurd (by unfold denH; grind) hden
  · exact main j i k g c hj ej ei (by rw [denH_symm]; omega) t2 t1
/-- A corner is a point of the region. -/
theorem corner_in {l : List Hf} {q : QP} (h : q ∈ cornP l) : ∃ x y d : Int, 0 < d ∧ q = (redR x d, redR y d) ∧ (l ++ boxL).all (hasH x y d) = true := by
  rw [mem_corn] at h
  have c1 : ∀ g k, q ∈ candL (l ++ boxL) g k → ∃ x y d : Int, 0 < d ∧ q = (redR x d, redR y d) ∧ (l ++ boxL).all (hasH x y d) = true := by
    intro g k hq
    unfold candL at hq
    simp only [] at hq
    split at hq
    · cases hq
    · rename_i h0
      split at hq
      · rename_i ha
        simp only [List.mem_cons, List.not_mem_nil, or_false] at hq
        exact ⟨_, _, _, sgT_pos h0, hq, ha⟩
      · cases hq
  have c2 : ∀ i k, q ∈ rawRow (l ++ boxL) i k → ∃ x y d : Int, 0 < d ∧ q = (redR x d, redR y d) ∧ (l ++ boxL).all (hasH x y d) = true := by
    intro i k
    induction k with
    | zero => intro hq; cases hq
    | succ k ih =>
      intro hq
      rw [rawRow, List.mem_append] at hq
      rcases hq with h | h
      · exact ih h
      · exact c1 _ _ h
  have c3 : ∀ i, q ∈ rawAll (l ++ boxL) i → ∃ x y d : Int, 0 < d ∧ q = (redR x d, redR y d) ∧ (l ++ boxL).all (hasH x y d) = true := by
    intro i
    induction i with
    | zero => intro hq; cases hq
    | succ i ih =>
      intro hq
      rw [rawAll, List.mem_append] at hq
      rcases hq with h | h
      · exact ih h
      · exact c2 i i h
  exact c3 _ h
/-- A region within a region. -/
theorem corn_sub {l m : List Hf} (hs : ∀ k ∈ m, k ∈ l) (h : cornP m = []) : cornP l = [] := by
  rcases hc : cornP l with _ | ⟨q, r⟩
  · rfl
  · obtain ⟨x, y, d, hd, _, ha⟩ := corner_in (l := l) (q := q) (by rw [hc]; simp)
    have hm : (m ++ boxL).all (hasH x y d) = true := by
      rw [List.all_eq_true] at ha ⊢
      intro k hk
      rcases List.mem_append.1 hk with hk | hk
      · exact ha k (by simp [hs k hk])
      · exact ha k (by simp [hk])
    obtain ⟨q', hq', _⟩ := corner_above hd hm
    rw [h] at hq'; cases hq'

/-! the highest corner -/
abbrev qAt' (l : List QP) (i : Nat) : QP := l.getD i ((0, 0), (0, 0))
def hiF (l : List QP) : Nat → QP
  | 0 => ((0, 0), (0, 0))
  | i + 1 => if (decide (i = 0) || ltR (hiF l i).2 (qAt' l i).2) = true then qAt' l i else hiF l i
def hiP (l : List QP) : QP := hiF l l.length
theorem hi_all {l : List QP} (hg : ∀ q ∈ l, goodQ q) : ∀ i, 0 < i → i ≤ l.length → hiF l i ∈ l ∧ ∀ j, j < i → ltR (hiF l i).2 (qAt' l j).2 = false
  | 0, h, _ => absurd h (Nat.lt_irrefl _)
  | i + 1, _, hi => by
    have hm : qAt' l i ∈ l := by rw [qAt', List.getD, List.getElem?_eq_getElem (by omega)]; exact List.getElem_mem (by omega)
    have irr : ∀ r : Pt, ltR r r = false := fun r => by simp [ltR]
    rw [hiF]
    rcases Nat.eq_zero_or_pos i with h0 | h0
    · subst h0
      rw [if_pos (by simp)]
      refine ⟨hm, fun j hj => ?_⟩
      have : j = 0 := by omega
      subst this; exact irr _
    · obtain ⟨h1, h2⟩ := hi_all hg i h0 (by omega)
      by_cases c : ltR (hiF l i).2 (qAt' l i).2 = true
      · rw [if_pos (by rw [c, Bool.or_true])]
        refine ⟨hm, fun j hj => ?_⟩
        by_cases e : j = i
        · subst e; exact irr _
        · have h3 := h2 j (by omega)
          have hj' : qAt' l j ∈ l := by rw [qAt', List.getD, List.getElem?_eq_getElem (by omega)]; exact List.getElem_mem (by omega)
          cases h4 : ltR (qAt' l i).2 (qAt' l j).2 with
          | false => rfl
          | true =>
            have g1 := (hg _ h1).2
            have g2 := (hg _ hm).2
            have g3 := (hg _ hj').2
            simp only [ltR, decide_eq_true_eq] at c h4
            have := ltR_trans g1.1 g2.1 g3.1 c h4
            rw [ltR, decide_eq_false_iff_not] at h3
            exact absurd this h3
      · have hd : decide (i = 0) = false := by simp; omega
        have c' : ltR (hiF l i).2 (qAt' l i).2 = false := by simpa using c
        rw [if_neg (by rw [hd, c']; decide)]
        refine ⟨h1, fun j hj => ?_⟩
        by_cases e : j = i
        · subst e; exact c'
        · exact h2 j (by omega)
end Go.Pl
/- Segments that cross: the numbers of the point in which they meet. -/
set_option linter.unusedVariables false
namespace Go.Pl

theorem rel_two {s t : Sg} (h : relP s t = 2) : (endsP s t).length = 0 ∧ crossesP s t = true := by
  unfold relP at h
  split at h
  · cases h
  · split at h
    · cases h
    · split at h
      · rename_i h1 h2 h3; exact ⟨by omega, h3⟩
      · cases h
theorem sgn_opp {a b : Int} (h : sgnI a * sgnI b < 0) : (0 < a ∧ b < 0) ∨ (a < 0 ∧ 0 < b) := by
  unfold sgnI at h
  by_cases a1 : a < 0
  · by_cases b1 : b < 0
    · simp [a1, b1] at h
    · by_cases b2 : 0 < b
      · exact .inr ⟨a1, b2⟩
      · simp [a1, b1, b2] at h
  · by_cases a2 : 0 < a
    · by_cases b1 : b < 0
      · exact .inl ⟨a2, b1⟩
      · by_cases b2 : 0 < b
        · simp [a1, a2, b1, b2] at h
        · simp [a1, a2, b1, b2] at h
    · simp [a1, a2] at h
def numX (s t : Sg) : Int := turn t.1 t.2 s.1
def denX (s t : Sg) : Int := numX s t - turn t.1 t.2 s.2
def in9 (p : Pt) : Prop := (-1000 ≤ p.1 ∧ p.1 ≤ 1000) ∧ (-1000 ≤ p.2 ∧ p.2 ≤ 1000)
theorem turn_bd {a b c : Pt} (ha : in9 a) (hb : in9 b) (hc : in9 c) : -8000000 ≤ turn a b c ∧ turn a b c ≤ 8000000 := by
  unfold in9 at ha hb hc
  have m1 := mulB (A := 2000) (B := 2000) (x := b.1 - a.1) (y := c.2 - a.2) (by omega) (by omega)
  have m2 := mulB (A := 2000) (B := 2000) (x := b.2 - a.2) (y := c.1 - a.1) (by omega) (by omega)
  unfold turn; omega
theorem between_bd {a b n d : Int} (ha : -1000 ≤ a ∧ a ≤ 1000) (hb : -1000 ≤ b ∧ b ≤ 1000) (h : (0 < n ∧ n < d) ∨ (d < n ∧ n < 0)) (hd : -16000000 ≤ d ∧ d ≤ 16000000) : -20000000000 ≤ a * d + (b - a) * n ∧ a * d + (b - a) * n ≤ 20000000000 := by
  have e : a * d + (b - a) * n = a * (d - n) + b * n := by grind
  rw [e]
  rcases h with ⟨h1, h2⟩ | ⟨h1, h2⟩
  · have p1 := Int.mul_nonneg (a := 1000 - a) (b := d - n) (by omega) (by omega)
    have p2 := Int.mul_nonneg (a := 1000 + a) (b := d - n) (by omega) (by omega)
    have p3 := Int.mul_nonneg (a := 1000 - b) (b := n) (by omega) (by omega)
    have p4 := Int.mul_nonneg (a := 1000 + b) (b := n) (by omega) (by omega)
    rw [Int.sub_mul] at p1 p3
    rw [Int.add_mul] at p2 p4
    omega
  · have p1 := Int.mul_nonneg (a := 1000 - a) (b := n - d) (by omega) (by omega)
    have p2 := Int.mul_nonneg (a := 1000 + a) (b := n - d) (by omega) (by omega)
    have p3 := Int.mul_nonneg (a := 1000 - b) (b := -n) (by omega) (by omega)
    have p4 := Int.mul_nonneg (a := 1000 + b) (b := -n) (by omega) (by omega)
    have e1 : a * (d - n) = -(a * (n - d)) := by grind
    have e2 : b * n = -(b * (-n)) := by grind
    rw [e1, e2]
    rw [Int.sub_mul] at p1 p3
    rw [Int.add_mul] at p2 p4
    omega
/-- The numbers of a crossing. -/
theorem cross_nums {s t : Sg} (h1 : in9 s.1) (h2 : in9 s.2) (h3 : in9 t.1) (h4 : in9 t.2) (h : relP s t = 2) : denX s t ≠ 0 ∧ (-16000000 ≤ denX s t ∧ denX s t ≤ 16000000) ∧ (-8000000 ≤ numX s t ∧ numX s t ≤ 8000000)
    ∧ (-20000000000 ≤ s.1.1 * denX s t + (s.2.1 - s.1.1) * numX s t ∧ s.1.1 * denX s t + (s.2.1 - s.1.1) * numX s t ≤ 20000000000)
    ∧ (-20000000000 ≤ s.1.2 * denX s t + (s.2.2 - s.1.2) * numX s t ∧ s.1.2 * denX s t + (s.2.2 - s.1.2) * numX s t ≤ 20000000000) := by
  have b1 := turn_bd h3 h4 h1
  have b2 := turn_bd h3 h4 h2
  have hc := (rel_two h).2
  unfold crossesP at hc
  simp only [Bool.and_eq_true, decide_eq_true_eq] at hc
  have ho := sgn_opp hc.2
  have hb : (0 < numX s t ∧ numX s t < denX s t) ∨ (denX s t < numX s t ∧ numX s t < 0) := by unfold denX numX; omega
  have hd : -16000000 ≤ denX s t ∧ denX s t ≤ 16000000 := by unfold denX numX; omega
  refine ⟨by omega, hd, b1, between_bd h1.1 h2.1 hb hd, between_bd h1.2 h2.2 hb hd⟩

/-! pairs of indices -/
def prow (a k : Nat) : List Pt := (List.range k).map fun j => ((a : Int), ((a + 1 + j : Nat) : Int))
theorem prow_succ (a k : Nat) : prow a (k + 1) = prow a k ++ [((a : Int), ((a + 1 + k : Nat) : Int))] := by simp [prow, List.range_succ]
theorem prow_len (a k : Nat) : (prow a k).length = k := by simp [prow]
def prs (n : Nat) : Nat → List Pt
  | 0 => []
  | a + 1 => prs n a ++ prow a (n - (a + 1))
theorem prs_len (n : Nat) : ∀ a, (prs n a).length ≤ n * a
  | 0 => Nat.zero_le _
  | a + 1 => by
    have := prs_len n a
    rw [prs, List.length_append, prow_len, Nat.mul_succ]; omega
theorem prow_mem {a k : Nat} {p : Pt} (h : p ∈ prow a k) : ∃ j, j < k ∧ p = ((a : Int), ((a + 1 + j : Nat) : Int)) := by
  simp only [prow, List.mem_map, List.mem_range] at h
  obtain ⟨j, hj, rfl⟩ := h; exact ⟨j, hj, rfl⟩
theorem prs_mem {n : Nat} {p : Pt} : ∀ {a : Nat}, a ≤ n → p ∈ prs n a → ∃ i j : Nat, i < j ∧ j < n ∧ p = ((i : Int), (j : Int))
  | 0, _, h => by cases h
  | a + 1, ha, h => by
    rw [prs, List.mem_append] at h
    rcases h with h | h
    · exact prs_mem (by omega) h
    · obtain ⟨j, hj, rfl⟩ := prow_mem h
      exact ⟨a, a + 1 + j, by omega, by omega, rfl⟩
def xrow {β : Type} (f : Pt → List β) (i : Nat) : Nat → List β
  | 0 => []
  | k + 1 => xrow f i k ++ f ((i : Int), ((i + 1 + k : Nat) : Int))
def xall {β : Type} (f : Pt → List β) (n : Nat) : Nat → List β
  | 0 => []
  | i + 1 => xall f n i ++ xrow f i (n - (i + 1))
theorem row_flat {β : Type} (f : Pt → List β) (i : Nat) : ∀ k, (prow i k).flatMap f = xrow f i k
  | 0 => rfl
  | k + 1 => by rw [prow_succ, List.flatMap_append, row_flat f i k, xrow]; simp
theorem prs_flat {β : Type} (f : Pt → List β) (n : Nat) : ∀ i, (prs n i).flatMap f = xall f n i
  | 0 => rfl
  | i + 1 => by rw [prs, List.flatMap_append, prs_flat f n i, row_flat, xall]
end Go.Pl
/- Points of fractions inserted in any order; crossings of segments in any order. -/
set_option linter.unusedVariables false
set_option linter.unusedSimpArgs false
namespace Go.Pl

theorem foldQ_off : ∀ (m : List GQ) (a : List GQ), (offG m).foldl addQ (offG a) = offG (m.foldl (fun m p => addG ltG p m) a)
  | [], a => rfl
  | x :: m, a => by
    show (offG m).foldl addQ (addQ (offG a) x.1) = _
    rw [addQ_off, foldQ_off m]; rfl
theorem mem_sub {l : List QP} {x : GQ} : x ∈ subQ l ↔ x.1 ∈ l := by
  induction l with
  | nil => simp [subQ]
  | cons q l ih =>
    rw [subQ]
    by_cases h : goodQ q
    · rw [dif_pos h, List.mem_cons, List.mem_cons, ih]
      constructor
      · rintro (h1 | h1)
        · exact .inl (by rw [h1])
        · exact .inr h1
      · rintro (h1 | h1)
        · exact .inl (Subtype.ext h1)
        · exact .inr h1
    · rw [dif_neg h, ih, List.mem_cons]
      constructor
      · exact .inr
      · rintro (h1 | h1)
        · exact absurd (h1 ▸ x.2) h
        · exact h1
theorem foldQ_ins {l : List QP} (h : ∀ q ∈ l, goodQ q) : l.foldl addQ [] = offG (insG ltG (subQ l)) := by
  have := foldQ_off (subQ l) []
  rw [off_sub h] at this
  exact this
/-- Inserted one by one: what is in the list counts alone. -/
theorem foldQ_same {l m : List QP} (hl : ∀ q ∈ l, goodQ q) (hm : ∀ q ∈ m, goodQ q) (h : ∀ q, q ∈ l ↔ q ∈ m) : l.foldl addQ [] = m.foldl addQ [] := by
  rw [foldQ_ins hl, foldQ_ins hm]
  refine congrArg offG (asc_uniqueG totG (asc_insG totG _) (asc_insG totG _) fun x => ?_)
  rw [mem_insG totG, mem_insG totG, mem_sub, mem_sub, h]

theorem den_neg (s t : Sg) : denX t s = -denX s t := by unfold denX numX turn; grind
theorem x_neg (s t : Sg) : t.1.1 * denX t s + (t.2.1 - t.1.1) * numX t s = -(s.1.1 * denX s t + (s.2.1 - s.1.1) * numX s t) := by unfold denX numX turn; grind
theorem y_neg (s t : Sg) : t.1.2 * denX t s + (t.2.2 - t.1.2) * numX t s = -(s.1.2 * denX s t + (s.2.2 - s.1.2) * numX s t) := by unfold denX numX turn; grind
theorem rat_neg {n d : Int} (hd : d ≠ 0) : redR (sgT (decide (-d < 0)) (-n)) (sgT (decide (-d < 0)) (-d)) = redR (sgT (decide (d < 0)) n) (sgT (decide (d < 0)) d) := by
  have key : ∀ x, sgT (decide (-d < 0)) (-x) = sgT (decide (d < 0)) x := by
    intro x
    unfold sgT
    by_cases c : d < 0
    · rw [if_neg (by simp; omega), if_pos (by simpa using c)]
    · rw [if_pos (by simp; omega), if_neg (by simpa using c)]; omega
  rw [key, key]
theorem prow_all {a k j : Nat} (h : j < k) : ((a : Int), ((a + 1 + j : Nat) : Int)) ∈ prow a k := by
  simp only [prow, List.mem_map, List.mem_range]
  exact ⟨j, h, rfl⟩
theorem prs_all {n i j : Nat} (h1 : i < j) (h2 : j < n) : ∀ a, i < a → a ≤ n → ((i : Int), (j : Int)) ∈ prs n a
  | 0, h, _ => by omega
  | a + 1, h, ha => by
    rw [prs, List.mem_append]
    rcases Nat.lt_or_ge i a with c | c
    · exact .inl (prs_all h1 h2 a c (by omega))
    · have : i = a := by omega
      subst this
      refine .inr ?_
      have := prow_all (a := i) (k := n - (i + 1)) (j := j - (i + 1)) (by omega)
      rwa [show i + 1 + (j - (i + 1)) = j by omega] at this
/-- All pairs, of a list or of the list backwards. -/
theorem prs_flat_mem {β : Type} {n : Nat} {f : Pt → List β} {q : β} : q ∈ (prs n n).flatMap f ↔ ∃ i j : Nat, i < j ∧ j < n ∧ q ∈ f ((i : Int), (j : Int)) := by
  rw [List.mem_flatMap]
  constructor
  · rintro ⟨p, hp, hq⟩
    obtain ⟨i, j, h1, h2, rfl⟩ := prs_mem (Nat.le_refl _) hp
    exact ⟨i, j, h1, h2, hq⟩
  · rintro ⟨i, j, h1, h2, hq⟩
    exact ⟨_, prs_all h1 h2 n (by omega) (Nat.le_refl _), hq⟩
theorem prs_back {β : Type} {n : Nat} {f g : Pt → List β} (h : ∀ i j : Nat, i < j → j < n → f ((i : Int), (j : Int)) = g (((n - 1 - j : Nat) : Int), ((n - 1 - i : Nat) : Int))) {q : β} : q ∈ (prs n n).flatMap f ↔ q ∈ (prs n n).flatMap g := by
  rw [prs_flat_mem, prs_flat_mem]
  constructor
  · rintro ⟨i, j, h1, h2, hq⟩
    exact ⟨n - 1 - j, n - 1 - i, by omega, by omega, by rw [← h i j h1 h2]; exact hq⟩
  · rintro ⟨i, j, h1, h2, hq⟩
    refine ⟨n - 1 - j, n - 1 - i, by omega, by omega, ?_⟩
    rw [h _ _ (by omega) (by omega), show n - 1 - (n - 1 - i) = i by omega, show n - 1 - (n - 1 - j) = j by omega]
    exact hq
end Go.Pl
/- The hull begins with its first vertex in order and turns to the left. -/
set_option linter.unusedVariables false
set_option linter.unusedSimpArgs false
namespace Go.Pl

theorem hullA_first {l : List Pt} (h : Asc l) (h2 : 2 ≤ l.length) : pA (hullA l) 0 = pA l 0 := by
  obtain ⟨m, r, M, rfl⟩ := asc_ends h2
  have hmM : ltP m M = true := by
    unfold Asc at h; rw [List.pairwise_cons] at h; exact h.1 M (by simp)
  have hm := head_mem_ext h
  have hM := last_mem_ext (m := M) (l := m :: r) (by simpa using h)
  rw [List.cons_append] at hM
  have c1 : m ∈ chainP (m :: (r ++ [M])) := (mem_chain h).2 ⟨by simp, hm.1⟩
  have c2 : M ∈ chainP (m :: (r ++ [M])) := (mem_chain h).2 ⟨by simp, hM.1⟩
  have ha := asc_chain h
  have hin : ∀ v ∈ chainP (m :: (r ++ [M])), ltP v m = false := by
    intro v hv
    have hv' := ((mem_chain h).1 hv).1
    have hh := h
    unfold Asc at hh
    rcases List.mem_cons.1 hv' with rfl | hv'
    · exact ltP_irrefl _
    · rw [List.pairwise_cons] at hh
      exact ltP_asymm (hh.1 v hv')
  have e0 : hullA (m :: (r ++ [M])) = (chainP (m :: (r ++ [M]))).dropLast ++ (highP (m :: (r ++ [M]))).dropLast := by rw [hullA, if_neg (by omega)]
  rw [e0]
  generalize chainP (m :: (r ++ [M])) = C at *
  have e1 : pA (m :: (r ++ [M])) 0 = m := rfl
  rw [e1]
  match C with
  | [] => cases c1
  | [x] =>
    simp at c1 c2
    rw [c1, c2, ltP_irrefl] at hmM; cases hmM
  | x :: y :: t =>
    show x = m
    unfold Asc at ha
    rw [List.pairwise_cons] at ha
    rcases List.mem_cons.1 c1 with h1 | h1
    · exact h1.symm
    · have := ha.1 m h1
      rw [hin x (by simp)] at this; cases this
theorem hull_min {l : List Pt} (h2 : 2 ≤ (hullP l).length) : pA (hullP l) 0 = minP (hullP l) := by
  have hl := insP_two h2
  have e : pA (hullP l) 0 = pA (insP l) 0 := hullA_first (asc_insP l) hl
  refine min_unique (pA_mem (by omega)) fun y hy => ?_
  rw [e]
  have hy' : y ∈ insP l := hullA_sub (asc_insP l) hy
  have ha := asc_insP l
  generalize insP l = L at *
  match L with
  | [] => cases hy'
  | x :: r =>
    show ltP y x = false
    unfold Asc at ha
    rw [List.pairwise_cons] at ha
    rcases List.mem_cons.1 hy' with rfl | h1
    · exact ltP_irrefl _
    · exact ltP_asymm (ha.1 y h1)
/-- A ring that begins with its first vertex is canonical, not turned round. -/
theorem canR_first {h : List Pt} (hn : h.Nodup) (h0 : 0 < h.length) (hm : pA h 0 = minP h) : canR h false = h := by
  have hk := kF_at h0
  have hlt := kF_lt h h.length h0 (Nat.le_refl _)
  have : kF h h.length = 0 := pA_inj hn hlt h0 (hk.trans hm.symm)
  unfold canR turnedP
  simp only [Bool.false_eq_true, if_false, this]
  simp
def crs (p q : Pt) : Int := p.1 * q.2 - p.2 * q.1
theorem turn_crs (o p q : Pt) : turn o p q = crs p q - (crs o q - crs o p) := by unfold turn crs; grind
/-- Sums over a ring do not depend on the point from which they are seen. -/
def fanN (h : List Pt) (o : Pt) : Nat → Int
  | 0 => 0
  | i + 1 => fanN h o i + turn o (pA h i) (pA h ((i + 1) % h.length))
def sumN (h : List Pt) : Nat → Int
  | 0 => 0
  | i + 1 => sumN h i + crs (pA h i) (pA h ((i + 1) % h.length))
theorem fan_sum (h : List Pt) (o : Pt) : ∀ i, i ≤ h.length → fanN h o i = sumN h i - crs o (pA h (i % h.length)) + crs o (pA h 0)
  | 0, _ => by simp [fanN, sumN]; omega
  | i + 1, hi => by
    rw [fanN, sumN, fan_sum h o i (by omega), turn_crs, Nat.mod_eq_of_lt (show i < h.length by omega)]; omega
theorem fan_all (h : List Pt) (o : Pt) : fanN h o h.length = sumN h h.length := by
  rw [fan_sum h o _ (Nat.le_refl _), Nat.mod_self]; omega
theorem fan_nonneg {h : List Pt} {o : Pt} : ∀ n, (∀ i, i < n → 0 ≤ turn (edP h i).1 (edP h i).2 o) → 0 ≤ fanN h o n
  | 0, _ => by simp [fanN]
  | n + 1, hq => by
    have h1 := fan_nonneg n (fun i hi => hq i (by omega))
    have h2 := hq n (by omega)
    rw [fanN]
    have e : turn (edP h n).1 (edP h n).2 o = turn o (pA h n) (pA h ((n + 1) % h.length)) := turn_cyc _ _ _
    rw [← e]; omega
theorem hull_sum_nonneg {l : List Pt} (h2 : 2 ≤ (hullP l).length) : 0 ≤ sumN (hullP l) (hullP l).length := by
  rw [← fan_all _ (pA (hullP l) 0)]
  exact fan_nonneg _ fun i hi => hullP_edge h2 hi (mem_hullP_sub (pA_mem (by omega)))
end Go.Pl
/- The edges of a hull; the area of a hull grows with its points. -/
set_option linter.unusedVariables false
set_option linter.unusedSimpArgs false
namespace Go.Pl

/-- Neighbours in a list. -/
def nbr (X : List Pt) : List Sg := (List.range (X.length - 1)).map fun j => (pA X j, pA X (j + 1))
def edgs (h : List Pt) : List Sg := (List.range h.length).map (edP h)
theorem hullA_edgs {l : List Pt} (h : Asc l) (h2 : 2 ≤ l.length) : edgs (hullA l) = nbr (chainP l) ++ nbr (highP l) := by
  obtain ⟨m, r, M, rfl⟩ := asc_ends h2
  obtain ⟨L, hL⟩ : ∃ L, m :: (r ++ [M]) = L := ⟨_, rfl⟩
  have hlast : (chainP L).getLast? = some M := by rw [← hL]; simpa using chain_last (m :: r) M
  have hlast2 : (highP L).getLast? = some m := by rw [← hL]; simpa [highP] using chain_last (M :: r.reverse) m
  have hmM : ltP m M = true := by
    unfold Asc at h; rw [List.pairwise_cons] at h; exact h.1 M (by simp)
  rw [hL] at h h2 ⊢
  have hmL : m ∈ L ∧ Ext L m ∧ Top L m := ⟨by rw [← hL]; simp, by rw [← hL]; exact head_mem_ext (by rw [hL]; exact h)⟩
  have hML : M ∈ L ∧ Ext L M ∧ Top L M := ⟨by rw [← hL]; simp, by
    have := last_mem_ext (m := M) (l := m :: r) (by rw [List.cons_append, hL]; exact h)
    rwa [List.cons_append, hL] at this⟩
  -- the two chains
  have c1 : m ∈ chainP L := (mem_chain h).2 ⟨hmL.1, hmL.2.1⟩
  have d1 : M ∈ highP L := (mem_high h).2 ⟨hML.1, hML.2.2⟩
  obtain ⟨C, hC⟩ : ∃ C, chainP L = C := ⟨_, rfl⟩
  obtain ⟨D, hD⟩ : ∃ D, highP L = D := ⟨_, rfl⟩
  have aC := asc_chain h
  have dD := desc_high h
  have leM : ∀ v ∈ L, ltP M v = false := fun v hv => by
    cases k : ltP M v with
    | false => rfl
    | true =>
      have hh := h
      unfold Asc at hh
      rw [← hL] at hh hv
      rcases List.mem_cons.1 hv with rfl | hv
      · rw [ltP_asymm hmM] at k; cases k
      · rw [List.pairwise_cons, List.pairwise_append] at hh
        rcases List.mem_append.1 hv with hv | hv
        · rw [ltP_asymm (hh.2.2.2 v hv M (by simp))] at k; cases k
        · rw [List.mem_singleton.1 hv, ltP_irrefl] at k; cases k
  have gem : ∀ v ∈ L, ltP v m = false := fun v hv => by
    cases k : ltP v m with
    | false => rfl
    | true =>
      have hh := h
      unfold Asc at hh
      rw [← hL] at hh hv
      rcases List.mem_cons.1 hv with rfl | hv
      · rw [ltP_irrefl] at k; cases k
      · rw [List.pairwise_cons] at hh
        rw [ltP_asymm (hh.1 v hv)] at k; cases k
  have e0 : hullA L = C.dropLast ++ D.dropLast := by rw [hullA, if_neg (by omega), hC, hD]
  rw [hC] at hlast c1 aC
  rw [hD] at hlast2 d1 dD
  have Cne : C ≠ [] := by rintro rfl; cases c1
  have Dne : D ≠ [] := by rintro rfl; cases d1
  have Cl : pA C (C.length - 1) = M := by
    have h0 : C.length - 1 < C.length := by have := List.length_pos_iff.2 Cne; omega
    rw [List.getLast?_eq_getElem?] at hlast
    simp only [pA, List.getD, hlast, Option.getD_some]
  have Dl : pA D (D.length - 1) = m := by
    rw [List.getLast?_eq_getElem?] at hlast2
    simp only [pA, List.getD, hlast2, Option.getD_some]
  have C0 : pA C 0 = m := by
    obtain ⟨k, hk, hkm⟩ := mem_pA c1
    rcases Nat.eq_zero_or_pos k with z | z
    · subst z; exact hkm
    · exfalso
      unfold Asc at aC
      rw [List.pairwise_iff_getElem] at aC
      have h0 : 0 < C.length := by omega
      have := aC 0 k h0 hk z
      have e1 : C[k] = m := by rw [← hkm]; simp [pA, List.getD, hk]
      have : ltP C[0] m = true := by rw [← e1]; exact this
      have hin : C[0] ∈ L := ((mem_chain h).1 (by rw [hC]; exact List.getElem_mem h0)).1
      rw [gem _ hin] at this; cases this
  have D0 : pA D 0 = M := by
    obtain ⟨k, hk, hkm⟩ := mem_pA d1
    rcases Nat.eq_zero_or_pos k with z | z
    · subst z; exact hkm
    · exfalso
      unfold Desc at dD
      rw [List.pairwise_iff_getElem] at dD
      have h0 : 0 < D.length := by omega
      have := dD 0 k h0 hk z
      have e1 : D[k] = M := by rw [← hkm]; simp [pA, List.getD, hk]
      have : ltP M D[0] = true := by rw [← e1]; exact this
      have hin : D[0] ∈ L := ((mem_high h).1 (by rw [hD]; exact List.getElem_mem h0)).1
      rw [leM _ hin] at this; cases this
  have C2 : 2 ≤ C.length := by
    have h0 := List.length_pos_iff.2 Cne
    rcases Nat.lt_or_ge 1 C.length with c | c
    · omega
    · rw [show C.length - 1 = 0 by omega, C0] at Cl
      rw [Cl, ltP_irrefl] at hmM; cases hmM
  have D2 : 2 ≤ D.length := by
    have h0 := List.length_pos_iff.2 Dne
    rcases Nat.lt_or_ge 1 D.length with c | c
    · omega
    · rw [show D.length - 1 = 0 by omega, D0] at Dl
      rw [Dl, ltP_irrefl] at hmM; cases hmM
  have hn : (hullA L).length = (C.length - 1) + (D.length - 1) := by rw [e0, List.length_append, List.length_dropLast, List.length_dropLast]
  have atC : ∀ j, j < C.length - 1 → pA (hullA L) j = pA C j := fun j hj => by
    rw [e0, pA, pA, List.getD, List.getD, List.getElem?_append_left (by rw [List.length_dropLast]; exact hj), List.getElem?_dropLast, if_pos hj]
  have atD : ∀ j, j < D.length - 1 → pA (hullA L) (C.length - 1 + j) = pA D j := fun j hj => by
    rw [e0, pA, pA, List.getD, List.getD, List.getElem?_append_right (by rw [List.length_dropLast]; omega), List.length_dropLast, Nat.add_sub_cancel_left, List.getElem?_dropLast, if_pos hj]
  rw [hC, hD]
  refine List.ext_getElem (by simp [edgs, nbr, hn]) ?_
  intro i h1 h2
  have hi : i < (C.length - 1) + (D.length - 1) := by simpa [edgs, hn] using h1
  have e1 : (edgs (hullA L))[i] = edP (hullA L) i := by simp [edgs]
  rw [e1]
  unfold edP
  rw [hn]
  rcases Nat.lt_or_ge i (C.length - 1) with c | c
  · rw [List.getElem_append_left (by simpa [nbr] using c)]
    have e2 : (nbr C)[i]'(by simpa [nbr] using c) = (pA C i, pA C (i + 1)) := by simp [nbr]
    rw [e2, Nat.mod_eq_of_lt (by omega), atC i c]
    congr 1
    rcases Nat.lt_or_ge (i + 1) (C.length - 1) with c2 | c2
    · exact atC _ c2
    · have := atD 0 (by omega)
      rw [D0] at this
      rw [show i + 1 = C.length - 1 by omega, Cl, ← this]; rfl
  · obtain ⟨j, rfl⟩ : ∃ j, i = C.length - 1 + j := ⟨i - (C.length - 1), by omega⟩
    rw [List.getElem_append_right (by simp [nbr])]
    have e2 : (nbr D)[C.length - 1 + j - (nbr C).length]'(by simp [nbr]; omega) = (pA D j, pA D (j + 1)) := by
      have : C.length - 1 + j - (nbr C).length = j := by simp [nbr]
      simp [nbr]
    rw [e2, atD j (by omega)]
    congr 1
    rcases Nat.lt_or_ge (j + 1) (D.length - 1) with c2 | c2
    · rw [Nat.mod_eq_of_lt (by omega)]; exact atD (j + 1) c2
    · rw [show C.length - 1 + j + 1 = C.length - 1 + (D.length - 1) by omega, Nat.mod_self, atC 0 (by omega), C0, show j + 1 = D.length - 1 by omega, Dl]

theorem nbr_split {X : List Pt} {e : Sg} : e ∈ nbr X ↔ ∃ pre r, X = pre ++ e.1 :: e.2 :: r := by
  simp only [nbr, List.mem_map, List.mem_range]
  constructor
  · rintro ⟨j, hj, rfl⟩
    exact ⟨_, _, split_at (by omega)⟩
  · rintro ⟨pre, r, hX⟩
    refine ⟨pre.length, by rw [hX]; simp, ?_⟩
    rw [hX]
    simp [pA, List.getD]
/-- In an ascending list what has nothing between is next to each other. -/
theorem next_of : ∀ {X : List Pt} {u v : Pt}, Asc X → u ∈ X → v ∈ X → ltP u v = true → (∀ w ∈ X, ltP u w = true → ltP w v = true → False) → ∃ pre r, X = pre ++ u :: v :: r
  | x :: X, u, v, ha, hu, hv, huv, hno => by
    unfold Asc at ha
    rw [List.pairwise_cons] at ha
    by_cases e : u = x
    · subst e
      have hv' : v ∈ X := by
        rcases List.mem_cons.1 hv with h | h
        · rw [h, ltP_irrefl] at huv; cases huv
        · exact h
      match X, hv', ha, hno with
      | y :: X, hv', ha, hno =>
        rcases List.mem_cons.1 hv' with h | h
        · exact ⟨[], X, by rw [h]; rfl⟩
        · have h2 := ha.2
          rw [List.pairwise_cons] at h2
          exact (hno y (by simp) (ha.1 y (by simp)) (h2.1 v h)).elim
    · have hu' : u ∈ X := by
        rcases List.mem_cons.1 hu with h | h
        · exact absurd h e
        · exact h
      have hv' : v ∈ X := by
        rcases List.mem_cons.1 hv with h | h
        · subst h
          have := ha.1 u hu'
          rw [ltP_asymm this] at huv; cases huv
        · exact h
      obtain ⟨pre, r, hX⟩ := next_of ha.2 hu' hv' huv (fun w hw => hno w (List.mem_cons_of_mem _ hw))
      exact ⟨x :: pre, r, by rw [hX]; rfl⟩
/-- An edge of the lower chain stays one if all further points lie to its left. -/
theorem chain_keep {S T : List Pt} (hS : Asc S) (hT : Asc T) (hsub : ∀ a ∈ S, a ∈ T) {e : Sg} (he : e ∈ nbr (chainP S)) (hp : ∀ a ∈ T, a ∉ S → 0 < turn e.1 e.2 a) : e ∈ nbr (chainP T) := by
  obtain ⟨u, v⟩ := e
  simp only [] at hp
  obtain ⟨pre, r, hC⟩ := nbr_split.1 he
  simp only [] at hC
  have hs := chain_stk hS
  have hu : u ∈ S ∧ Ext S u := (mem_chain hS).1 (by rw [hC]; simp)
  have hv : v ∈ S ∧ Ext S v := (mem_chain hS).1 (by rw [hC]; simp)
  have huv : ltP u v = true := by
    have hd := asc_chain hS
    unfold Asc at hd
    rw [hC, List.pairwise_append, List.pairwise_cons] at hd
    exact hd.2.1.1 v (by simp)
  have hge : ∀ a ∈ T, 0 ≤ turn u v a := fun a ha => by
    by_cases c : a ∈ S
    · exact (chain_left hS hC c).1
    · have := hp a ha c; omega
  have hlt : ∀ a ∈ T, ltP a u = true ∨ ltP v a = true → 0 < turn u v a := fun a ha h => by
    by_cases c : a ∈ S
    · rcases h with h | h
      · have := hu.2 a c v hv.1 h huv
        rw [← turn_cyc] at this; exact this
      · exact hv.2 u hu.1 a c huv h
    · exact hp a ha c
  have eu : Ext T u := fun a ha b hb h1 h2 => by
    have k1 : 0 < turn a u v := by rw [← turn_cyc]; exact hlt a ha (.inl h1)
    exact turn_side' h1 huv h2 k1 (hge b hb)
  have ev : Ext T v := fun a ha b hb h1 h2 => turn_side huv h1 h2 (hge a ha) (hlt b hb (.inr h2))
  refine nbr_split.2 (next_of (asc_chain hT) ((mem_chain hT).2 ⟨hsub u hu.1, eu⟩) ((mem_chain hT).2 ⟨hsub v hv.1, ev⟩) huv fun w hw h1 h2 => ?_)
  have hw' := (mem_chain hT).1 hw
  have := hw'.2 u (hsub u hu.1) v (hsub v hv.1) h1 h2
  have e3 : turn u w v = -turn u v w := by unfold turn; grind
  have := hge w hw'.1
  omega
theorem nbr_neg (X : List Pt) : nbr (X.map negP) = (nbr X).map fun e => (negP e.1, negP e.2) := by
  unfold nbr
  rw [List.length_map, List.map_map]
  refine List.map_congr_left fun j hj => ?_
  rw [List.mem_range] at hj
  have h : ∀ i, i < X.length → pA (X.map negP) i = negP (pA X i) := fun i hi => by
    simp [pA, List.getD, hi]
  show (pA (X.map negP) j, pA (X.map negP) (j + 1)) = (negP (pA X j), negP (pA X (j + 1)))
  rw [h j (by omega), h (j + 1) (by omega)]
theorem high_keep {S T : List Pt} (hS : Asc S) (hT : Asc T) (hsub : ∀ a ∈ S, a ∈ T) {e : Sg} (he : e ∈ nbr (highP S)) (hp : ∀ a ∈ T, a ∉ S → 0 < turn e.1 e.2 a) : e ∈ nbr (highP T) := by
  rw [highP_eq, nbr_neg, List.mem_map] at he ⊢
  obtain ⟨f, hf, rfl⟩ := he
  refine ⟨f, chain_keep (asc_neg hS) (asc_neg hT) (fun a ha => ?_) hf (fun a ha hn => ?_), rfl⟩
  · rw [mem_neg, List.mem_reverse] at ha ⊢; exact hsub _ ha
  · rw [mem_neg, List.mem_reverse] at ha hn
    have := hp _ ha hn
    rw [← turn_neg, negP_neg, negP_neg, negP_neg] at this
    exact this
theorem edge_keep {S T : List Pt} (hS : Asc S) (hT : Asc T) (h2 : 2 ≤ S.length) (hsub : ∀ a ∈ S, a ∈ T) {e : Sg} (he : e ∈ edgs (hullA S)) (hp : ∀ a ∈ T, a ∉ S → 0 < turn e.1 e.2 a) : e ∈ edgs (hullA T) := by
  have h3 : 2 ≤ T.length := Nat.le_trans h2 (nodup_len_le (asc_nodup hS) hsub)
  rw [hullA_edgs hS h2, List.mem_append] at he
  rw [hullA_edgs hT h3, List.mem_append]
  rcases he with h | h
  · exact .inl (chain_keep hS hT hsub h hp)
  · exact .inr (high_keep hS hT hsub h hp)

/-! sums -/
def sumE (f : Sg → Int) : List Sg → Int
  | [] => 0
  | e :: l => f e + sumE f l
theorem sumE_app (f : Sg → Int) : ∀ a b : List Sg, sumE f (a ++ b) = sumE f a + sumE f b
  | [], b => by simp [sumE]
  | e :: a, b => by rw [List.cons_append, sumE, sumE, sumE_app f a b]; omega
theorem sumE_nonneg {f : Sg → Int} : ∀ {l : List Sg}, (∀ e ∈ l, 0 ≤ f e) → 0 ≤ sumE f l
  | [], _ => by simp [sumE]
  | e :: l, h => by
    have h1 := h e (by simp)
    have h2 := sumE_nonneg (l := l) fun x hx => h x (by simp [hx])
    rw [sumE]; omega
theorem sumE_erase {f : Sg → Int} : ∀ {l : List Sg} {e : Sg}, e ∈ l → sumE f l = f e + sumE f (l.erase e)
  | x :: l, e, h => by
    by_cases c : x = e
    · subst c; rw [List.erase_cons_head, sumE]
    · have he : e ∈ l := by
        rcases List.mem_cons.1 h with h | h
        · exact absurd h.symm c
        · exact h
      rw [List.erase_cons_tail (by simpa using c), sumE, sumE, sumE_erase he]; omega
/-- What is positive in the one sum stands in the other. -/
theorem sumE_le {f : Sg → Int} : ∀ {a b : List Sg}, a.Nodup → (∀ e ∈ a, 0 < f e → e ∈ b) → (∀ e ∈ b, 0 ≤ f e) → sumE f a ≤ sumE f b
  | [], b, _, _, hb => by rw [sumE]; exact sumE_nonneg hb
  | e :: a, b, hn, hs, hb => by
    rw [List.nodup_cons] at hn
    rw [sumE]
    by_cases c : 0 < f e
    · have he := hs e (by simp) c
      have ih := sumE_le (a := a) (b := b.erase e) hn.2 (fun x hx hp => (List.mem_erase_of_ne (by rintro rfl; exact hn.1 hx)).2 (hs x (by simp [hx]) hp)) (fun x hx => hb x (List.mem_of_mem_erase hx))
      rw [sumE_erase he]; omega
    · have ih := sumE_le (a := a) (b := b) hn.2 (fun x hx hp => hs x (by simp [hx]) hp) hb
      omega
theorem fan_edgs (h : List Pt) (o : Pt) : ∀ n, fanN h o n = sumE (fun e => turn o e.1 e.2) ((List.range n).map (edP h))
  | 0 => rfl
  | n + 1 => by
    rw [List.range_succ, List.map_append, sumE_app, ← fan_edgs h o n, fanN]
    simp [sumE, edP]
theorem edgs_nodup {h : List Pt} (hn : h.Nodup) : (edgs h).Nodup := by
  unfold edgs
  refine List.pairwise_map.2 (List.Pairwise.imp_of_mem ?_ List.nodup_range)
  intro i j hi hj hij e
  rw [List.mem_range] at hi hj
  exact hij (pA_inj hn hi hj (congrArg Prod.fst e))
/-- One more point: the hull does not get smaller. -/
theorem area_step (S : List Pt) (p : Pt) : sumN (hullP S) (hullP S).length ≤ sumN (hullP (p :: S)) (hullP (p :: S)).length := by
  by_cases hpS : p ∈ S
  · have : hullP (p :: S) = hullP S := hullP_congr fun x => by
      simp only [List.mem_cons]
      exact ⟨fun h => h.elim (fun e => e ▸ hpS) id, .inr⟩
    rw [this]; exact Int.le_refl _
  · have hsub : ∀ a ∈ insP S, a ∈ insP (p :: S) := fun a ha => mem_insP.2 (List.mem_cons_of_mem _ (mem_insP.1 ha))
    have hlen : (insP S).length ≤ (insP (p :: S)).length := nodup_len_le (asc_nodup (asc_insP S)) hsub
    have h0 : 0 ≤ sumN (hullP (p :: S)) (hullP (p :: S)).length := by
      rcases Nat.lt_or_ge (hullP (p :: S)).length 2 with c | c
      · match hh : hullP (p :: S), c with
        | [], _ => simp [sumN]
        | [x], _ => simp [sumN, crs, pA]; have := Int.mul_comm x.1 x.2; omega
      · exact hull_sum_nonneg c
    rcases Nat.lt_or_ge (insP S).length 2 with c | c
    · have : sumN (hullP S) (hullP S).length = 0 := by
        have hl := nodup_len_le (hullP_nodup S) (fun x hx => mem_insP.2 (mem_hullP_sub hx))
        have hl2 : (hullP S).length < 2 := by omega
        match hh : hullP S, hl2 with
        | [], _ => simp [sumN]
        | [x], _ => simp [sumN, crs, pA]; have := Int.mul_comm x.1 x.2; omega
      omega
    · have hb2 : 2 ≤ (hullP (p :: S)).length := by
        have hT := asc_insP (p :: S)
        have h2 : 2 ≤ (insP (p :: S)).length := by omega
        have := hullA_edgs hT h2
        have hl := congrArg List.length this
        obtain ⟨m, r, M, hm⟩ := asc_ends h2
        have hmM : m ≠ M := by
          have := hT
          rw [hm] at this
          unfold Asc at this; rw [List.pairwise_cons] at this
          exact ltP_ne (this.1 M (by simp))
        have hm1 := head_mem_ext (m := m) (l := r ++ [M]) (by rw [← hm]; exact hT)
        have hm2 := last_mem_ext (m := M) (l := m :: r) (by rw [List.cons_append, ← hm]; exact hT)
        rw [List.cons_append] at hm2
        have a1 : m ∈ hullP (p :: S) := by rw [hullP, hm]; exact (mem_hullA (by rw [← hm]; exact hT) (by rw [← hm]; exact h2)).2 (.inl ((mem_chain (by rw [← hm]; exact hT)).2 ⟨by simp, hm1.1⟩))
        have a2 : M ∈ hullP (p :: S) := by rw [hullP, hm]; exact (mem_hullA (by rw [← hm]; exact hT) (by rw [← hm]; exact h2)).2 (.inl ((mem_chain (by rw [← hm]; exact hT)).2 ⟨by simp, hm2.1⟩))
        have := nodup_len_le (a := [m, M]) (by simp [hmM]) (fun x hx => by
          simp only [List.mem_cons, List.not_mem_nil, or_false] at hx
          rcases hx with rfl | rfl
          · exact a1
          · exact a2)
        simpa using this
      rw [← fan_all (hullP S) p, ← fan_all (hullP (p :: S)) p, fan_edgs, fan_edgs]
      refine sumE_le (edgs_nodup (hullP_nodup S)) (fun e he hp => ?_) (fun e he => ?_)
      · refine edge_keep (asc_insP S) (asc_insP (p :: S)) c hsub he fun a ha hn => ?_
        have : a = p := by
          rcases List.mem_cons.1 (mem_insP.1 ha) with h | h
          · exact h
          · exact absurd (mem_insP.2 h) hn
        subst this
        rw [turn_cyc]; exact hp
      · simp only [List.mem_map, List.mem_range] at he
        obtain ⟨i, hi, rfl⟩ := he
        rw [← turn_cyc]
        exact hullP_edge hb2 hi (by simp)
theorem area_more (S : List Pt) : ∀ T : List Pt, sumN (hullP S) (hullP S).length ≤ sumN (hullP (T ++ S)) (hullP (T ++ S)).length
  | [] => Int.le_refl _
  | p :: T => Int.le_trans (area_more S T) (area_step (T ++ S) p)
theorem area_sub {S T : List Pt} (h : ∀ a ∈ S, a ∈ T) : sumN (hullP S) (hullP S).length ≤ sumN (hullP T) (hullP T).length := by
  have h1 := area_more S T
  have : hullP (T ++ S) = hullP T := hullP_congr fun x => by
    simp only [List.mem_append]
    exact ⟨fun q => q.elim id (h x), .inl⟩
  rwa [this] at h1
end Go.Pl
/- Polygons: another first vertex, the other direction, a move. -/

namespace Go.Pl

/-! lists that are the same but for the order -/
theorem range_inj_perm {n : Nat} {f : Nat → Nat} (hf : ∀ i, i < n → f i < n) (hi : ∀ i k, i < n → k < n → f i = f k → i = k) : ((List.range n).map f).Perm (List.range n) := by
  have hnd : ((List.range n).map f).Nodup := by
    rw [List.Nodup, List.pairwise_map]
    refine (List.nodup_range (n := n)).imp_of_mem fun {a b} ha hb hne e => hne (hi a b (List.mem_range.1 ha) (List.mem_range.1 hb) e)
  refine (List.perm_ext_iff_of_nodup hnd List.nodup_range).2 fun a => ⟨fun h => ?_, fun h => ?_⟩
  · obtain ⟨i, h1, rfl⟩ := List.mem_map.1 h
    exact List.mem_range.2 (hf i (List.mem_range.1 h1))
  · apply Classical.byContradiction
    intro hc
    have key : ∀ {a b : List Nat}, a.Nodup → (∀ x ∈ a, x ∈ b) → a.length ≤ b.length := by
      intro a
      induction a with
      | nil => intro b _ _; simp
      | cons x a ih =>
        intro b hn hs
        rw [List.nodup_cons] at hn
        have hx := hs x (by simp)
        have := ih (b := b.erase x) hn.2 (fun y hy => (List.mem_erase_of_ne (fun e : y = x => hn.1 (by rw [← e]; exact hy))).2 (hs y (by simp [hy])))
        rw [List.length_erase_of_mem hx] at this
        have := List.length_pos_of_mem hx
        simp only [List.length_cons]; omega
    have := key (a := a :: (List.range n).map f) (b := List.range n) (List.nodup_cons.2 ⟨hc, hnd⟩) (fun x hx => by
      rcases List.mem_cons.1 hx with rfl | hx
      · exact h
      · obtain ⟨i, h1, rfl⟩ := List.mem_map.1 hx
        exact List.mem_range.2 (hf i (List.mem_range.1 h1)))
    simp at this
    omega
theorem perm_of_index {α : Type} {n : Nat} {f : Nat → Nat} (hf : ∀ i, i < n → f i < n) (hi : ∀ i k, i < n → k < n → f i = f k → i = k) {A B : Nat → α} (h : ∀ i, i < n → A i = B (f i)) :
    ((List.range n).map A).Perm ((List.range n).map B) := by
  have e : (List.range n).map A = ((List.range n).map f).map B := by
    rw [List.map_map]
    exact List.map_congr_left fun i hm => h i (List.mem_range.1 hm)
  rw [e]
  exact (range_inj_perm hf hi).map B

theorem pairs_map {l l' : List Pt} (hn : l'.length = l.length) {f : Nat → Nat} (hf : ∀ i, i < l.length → f i < l.length) (hi : ∀ i k, i < l.length → k < l.length → f i = f k → i = k)
    (ha : ∀ i k, i < l.length → k < l.length → adjB l.length i k = adjB l.length (f i) (f k)) (hr : ∀ i k, i < l.length → k < l.length → relP (edP l' i) (edP l' k) = relP (edP l (f i)) (edP l (f k))) (h : pairsP l = true) : pairsP l' = true := by
  rw [pairs_all] at h ⊢
  intro i hi2 k hk hne
  rw [hn] at hi2 hk ⊢
  have := h (f i) (hf i hi2) (f k) (hf k hk) (fun e => hne (hi i k hi2 hk e))
  rw [okE, ← ha i k hi2 hk] at this
  rw [okE, hr i k hi2 hk]; exact this

/-! another first vertex -/
def rotP (l : List Pt) (r : Nat) : List Pt := l.drop r ++ l.take r
theorem rot_len {l : List Pt} (r : Nat) : (rotP l r).length = l.length := by simp [rotP]; omega
theorem rot_at {l : List Pt} {r j : Nat} (hr : r < l.length) (hj : j < l.length) : pA (rotP l r) j = pA l ((r + j) % l.length) := drop_take_at hr hj
theorem rot_perm (l : List Pt) (r : Nat) : (rotP l r).Perm l := by
  have : (l.drop r ++ l.take r).Perm (l.take r ++ l.drop r) := List.perm_append_comm
  rw [List.take_append_drop] at this; exact this
theorem mod_cases (x n : Nat) (h : x < 2 * n) : x % n = if x < n then x else x - n := by
  split
  · exact Nat.mod_eq_of_lt (by assumption)
  · rw [Nat.mod_eq_sub_mod (by omega), Nat.mod_eq_of_lt (by omega)]
theorem rot_lt {n r j : Nat} (h : j < n) : (r + j) % n < n := Nat.mod_lt _ (by omega)
theorem rot_inj {n r i k : Nat} (hr : r < n) (hi : i < n) (hk : k < n) (h : (r + i) % n = (r + k) % n) : i = k := by
  rw [mod_cases _ _ (by omega), mod_cases _ _ (by omega)] at h
  split at h <;> split at h <;> omega
theorem rot_next {n r j : Nat} (hr : r < n) (hj : j < n) : (r + (j + 1) % n) % n = ((r + j) % n + 1) % n := by
  have h1 : (j + 1) % n = if j + 1 < n then j + 1 else j + 1 - n := mod_cases _ _ (by omega)
  have h2 : (r + j) % n = if r + j < n then r + j else r + j - n := mod_cases _ _ (by omega)
  rw [h1, h2]
  split <;> split
  · rw [show r + (j + 1) = r + j + 1 by omega]
  · rw [show r + (j + 1) = r + j - n + 1 + n by omega, Nat.add_mod_right]
  · have : j + 1 - n = 0 := by omega
    rw [this, show r + j + 1 = r + n by omega, Nat.add_mod_right]; rfl
  · have : j + 1 - n = 0 := by omega
    rw [this, show r + j - n + 1 = r by omega]; rfl
theorem rot_ed {l : List Pt} {r j : Nat} (hr : r < l.length) (hj : j < l.length) : edP (rotP l r) j = edP l ((r + j) % l.length) := by
  unfold edP
  rw [rot_len, rot_at hr hj, rot_at hr (Nat.mod_lt _ (by omega)), rot_next hr hj]
theorem rot_adj {n r i k : Nat} (hr : r < n) (hi : i < n) (hk : k < n) : adjB n i k = adjB n ((r + i) % n) ((r + k) % n) := by
  have key : ∀ a b : Nat, a < n → b < n → decide ((a + 1) % n = b) = decide (((r + a) % n + 1) % n = (r + b) % n) := by
    intro a b ha hb
    rw [← rot_next hr ha]
    refine decide_eq_decide.2 ⟨fun e => by rw [e], fun e => rot_inj hr (Nat.mod_lt _ (by omega)) hb e⟩
  rw [adjB, adjB, key i k hi hk, key k i hk hi]
theorem rot_pairs {l : List Pt} {r : Nat} (hr : r < l.length) (h : pairsP l = true) : pairsP (rotP l r) = true :=
  pairs_map (rot_len r) (f := fun j => (r + j) % l.length) (fun i hi => rot_lt hi) (fun i k hi hk e => rot_inj hr hi hk e) (fun i k hi hk => rot_adj hr hi hk) (fun i k hi hk => by rw [rot_ed hr hi, rot_ed hr hk]) h
theorem rot_back {l : List Pt} {r : Nat} (hr : r < l.length) : ∃ q, q < l.length ∧ rotP (rotP l r) q = l := by
  rcases Nat.eq_zero_or_pos r with h0 | h0
  · subst h0
    refine ⟨0, hr, ?_⟩
    simp [rotP]
  · refine ⟨l.length - r, by omega, ?_⟩
    unfold rotP
    have e : (l.drop r).length = l.length - r := List.length_drop
    rw [← e, List.drop_left, List.take_left, List.take_append_drop]
theorem rot_simple {l : List Pt} {r : Nat} (hr : r < l.length) : pairsP (rotP l r) = pairsP l := by
  rw [Bool.eq_iff_iff]
  refine ⟨fun h => ?_, fun h => rot_pairs hr h⟩
  obtain ⟨q, h1, h2⟩ := rot_back hr
  have := rot_pairs (l := rotP l r) (r := q) (by rw [rot_len]; exact h1) h
  rw [h2] at this; exact this
theorem rot_edgs {l : List Pt} {r : Nat} (hr : r < l.length) : (edgs (rotP l r)).Perm (edgs l) := by
  unfold edgs
  rw [rot_len]
  exact perm_of_index (f := fun j => (r + j) % l.length) (fun i hi => rot_lt hi) (fun i k hi hk e => rot_inj hr hi hk e) fun i hi => rot_ed hr hi

/-! the other direction -/
def swS (s : Sg) : Sg := (s.2, s.1)
theorem onS_sw (s : Sg) (p : Pt) : onS (swS s) p = onS s p := by
  have h1 : turn s.2 s.1 p = -turn s.1 s.2 p := by unfold turn; grind
  have h2 : (turn s.2 s.1 p == 0) = (turn s.1 s.2 p == 0) := by
    rw [h1, Bool.eq_iff_iff, beq_iff_eq, beq_iff_eq]; omega
  have e1 : btw (swS s) p = btw s p := by
    unfold btw swS
    rw [Bool.eq_iff_iff]
    simp only [Bool.and_eq_true, decide_eq_true_eq]
    omega
  rw [onS, onS, e1]
  show ((turn s.2 s.1 p == 0) && _) = _
  rw [h2]
theorem ends_sw (s t : Sg) : endsP (swS s) (swS t) = endsP s t := by
  unfold endsP
  refine insP_congr fun x => ?_
  simp only [List.mem_filter, onS_sw]
  have : x ∈ [(swS s).1, (swS s).2, (swS t).1, (swS t).2] ↔ x ∈ [s.1, s.2, t.1, t.2] := by
    simp only [swS, List.mem_cons, List.not_mem_nil, or_false]
    constructor <;> rintro (h | h | h | h) <;> simp [h]
  rw [this]
theorem sgn_neg (x : Int) : sgnI (-x) = -sgnI x := by unfold sgnI; split <;> split <;> (try split) <;> (try split) <;> omega
theorem cross_sw (s t : Sg) : crossesP (swS s) (swS t) = crossesP s t := by
  have h : ∀ a b p : Pt, turn b a p = -turn a b p := fun a b p => by unfold turn; grind
  unfold crossesP
  congr 1
  · refine decide_eq_decide.2 ?_
    simp only [swS]
    rw [h s.1 s.2, h s.1 s.2, sgn_neg, sgn_neg, Int.neg_mul_neg, Int.mul_comm]
  · refine decide_eq_decide.2 ?_
    simp only [swS]
    rw [h t.1 t.2, h t.1 t.2, sgn_neg, sgn_neg, Int.neg_mul_neg, Int.mul_comm]
theorem rel_sw (s t : Sg) : relP (swS s) (swS t) = relP s t := by unfold relP; rw [ends_sw, cross_sw]
theorem rev_at {l : List Pt} {j : Nat} (hj : j < l.length) : pA l.reverse j = pA l (l.length - 1 - j) := by
  have h2 : l.length - 1 - j < l.length := by omega
  simp [pA, List.getD, List.getElem?_reverse hj]
def revF (n j : Nat) : Nat := n - 1 - (j + 1) % n
theorem rev_lt {n j : Nat} (h : j < n) : revF n j < n := by unfold revF; omega
theorem rev_inj {n i k : Nat} (hi : i < n) (hk : k < n) (h : revF n i = revF n k) : i = k := by
  unfold revF at h
  have h1 := Nat.mod_lt (i + 1) (show 0 < n by omega)
  have h2 := Nat.mod_lt (k + 1) (show 0 < n by omega)
  have e : (i + 1) % n = (k + 1) % n := by omega
  rw [mod_cases _ _ (by omega), mod_cases _ _ (by omega)] at e
  split at e <;> split at e <;> omega
theorem rev_next {n j : Nat} (h : j < n) : (revF n j + 1) % n = n - 1 - j := by
  unfold revF
  have h1 : (j + 1) % n = if j + 1 < n then j + 1 else j + 1 - n := mod_cases _ _ (by omega)
  rw [h1]
  split
  · rw [Nat.mod_eq_of_lt (by omega)]; omega
  · rw [show n - 1 - (j + 1 - n) + 1 = n by omega, Nat.mod_self]; omega
theorem rev_ed {l : List Pt} {j : Nat} (hj : j < l.length) : edP l.reverse j = swS (edP l (revF l.length j)) := by
  unfold edP swS
  rw [List.length_reverse, rev_at hj, rev_at (Nat.mod_lt _ (by omega)), rev_next hj]; rfl
theorem rev_adj {n i k : Nat} (hi : i < n) (hk : k < n) : adjB n i k = adjB n (revF n i) (revF n k) := by
  have key : ∀ a b : Nat, a < n → b < n → decide ((a + 1) % n = b) = decide ((revF n b + 1) % n = revF n a) := by
    intro a b ha hb
    rw [rev_next hb]
    refine decide_eq_decide.2 ?_
    unfold revF
    have := Nat.mod_lt (a + 1) (show 0 < n by omega)
    omega
  rw [adjB, adjB, key i k hi hk, key k i hk hi, Bool.or_comm]
theorem rev_pairs {l : List Pt} (h : pairsP l = true) : pairsP l.reverse = true :=
  pairs_map List.length_reverse (f := revF l.length) (fun i hi => rev_lt hi) (fun i k hi hk e => rev_inj hi hk e) (fun i k hi hk => rev_adj hi hk) (fun i k hi hk => by rw [rev_ed hi, rev_ed hk, rel_sw]) h
theorem rev_simple (l : List Pt) : pairsP l.reverse = pairsP l := by
  rw [Bool.eq_iff_iff]
  exact ⟨fun h => by have := rev_pairs h; rwa [List.reverse_reverse] at this, rev_pairs⟩
theorem rev_edgs (l : List Pt) : (edgs l.reverse).Perm ((edgs l).map swS) := by
  unfold edgs
  rw [List.length_reverse, List.map_map]
  exact perm_of_index (f := revF l.length) (fun i hi => rev_lt hi) (fun i k hi hk e => rev_inj hi hk e) fun i hi => rev_ed hi

/-! a move -/
def mvS (dx dy : Int) (s : Sg) : Sg := (mv dx dy s.1, mv dx dy s.2)
theorem onS_mv (dx dy : Int) (s : Sg) (p : Pt) : onS (mvS dx dy s) (mv dx dy p) = onS s p := by
  simp only [onS, mvS, turn_mv, btw]
  congr 1
  simp only [mv]
  congr 1 <;> congr 1 <;> exact decide_eq_decide.2 (by omega)
theorem ends_mv (dx dy : Int) (s t : Sg) : endsP (mvS dx dy s) (mvS dx dy t) = (endsP s t).map (mv dx dy) := by
  unfold endsP
  rw [← insP_mv]
  congr 1
  have e : [(mvS dx dy s).1, (mvS dx dy s).2, (mvS dx dy t).1, (mvS dx dy t).2] = [s.1, s.2, t.1, t.2].map (mv dx dy) := rfl
  rw [e, List.filter_map]
  congr 1
  refine List.filter_congr fun x _ => ?_
  simp only [Function.comp, onS_mv]
theorem rel_mv (dx dy : Int) (s t : Sg) : relP (mvS dx dy s) (mvS dx dy t) = relP s t := by
  unfold relP
  rw [ends_mv, List.length_map]
  have : crossesP (mvS dx dy s) (mvS dx dy t) = crossesP s t := by simp only [crossesP, mvS, turn_mv]
  rw [this]
theorem mv_at (dx dy : Int) {l : List Pt} {i : Nat} (h : i < l.length) : pA (l.map (mv dx dy)) i = mv dx dy (pA l i) := by simp [pA, List.getD, h]
theorem mv_ed (dx dy : Int) {l : List Pt} {i : Nat} (h : i < l.length) : edP (l.map (mv dx dy)) i = mvS dx dy (edP l i) := by
  unfold edP mvS
  rw [List.length_map, mv_at dx dy h, mv_at dx dy (Nat.mod_lt _ (by omega))]
theorem mv_simple (dx dy : Int) (l : List Pt) : pairsP (l.map (mv dx dy)) = pairsP l := by
  rw [Bool.eq_iff_iff, pairs_all, pairs_all, List.length_map]
  constructor
  · intro h i hi k hk hne
    have := h i hi k hk hne
    rw [mv_ed dx dy hi, mv_ed dx dy hk, rel_mv] at this; exact this
  · intro h i hi k hk hne
    rw [mv_ed dx dy hi, mv_ed dx dy hk, rel_mv]; exact h i hi k hk hne
theorem mv_edgs (dx dy : Int) (l : List Pt) : edgs (l.map (mv dx dy)) = (edgs l).map (mvS dx dy) := by
  unfold edgs
  rw [List.length_map, List.map_map]
  exact List.map_congr_left fun i hi => mv_ed dx dy (List.mem_range.1 hi)

/-! sums and searches over edges -/
theorem sumE_perm {f : Sg → Int} {a b : List Sg} (h : a.Perm b) : sumE f a = sumE f b := by
  induction h with
  | nil => rfl
  | cons x _ ih => simp only [sumE, ih]
  | swap x y l => simp only [sumE]; omega
  | trans _ _ ih1 ih2 => exact ih1.trans ih2
theorem sumE_map {f g : Sg → Int} {h : Sg → Sg} (hf : ∀ e, f (h e) = g e) : ∀ l : List Sg, sumE f (l.map h) = sumE g l
  | [] => rfl
  | e :: l => by simp only [List.map_cons, sumE, hf, sumE_map hf l]
theorem sumE_neg {f : Sg → Int} : ∀ l : List Sg, sumE (fun e => -f e) l = -sumE f l
  | [] => rfl
  | e :: l => by simp only [sumE, sumE_neg l]; omega
theorem sumN_edgs (l : List Pt) : sumN l l.length = sumE (fun e => crs e.1 e.2) (edgs l) := by
  have key : ∀ n, sumN l n = sumE (fun e => crs e.1 e.2) ((List.range n).map (edP l)) := by
    intro n
    induction n with
    | zero => rfl
    | succ n ih =>
      rw [sumN, ih, List.range_succ, List.map_append, sumE_app]
      simp only [List.map_cons, List.map_nil, sumE, edP]
      omega
  exact key _
theorem area_rot {l : List Pt} {r : Nat} (hr : r < l.length) : sumN (rotP l r) l.length = sumN l l.length := by
  have e := sumN_edgs (rotP l r)
  rw [rot_len] at e
  rw [e, sumN_edgs, sumE_perm (rot_edgs hr)]
theorem area_rev (l : List Pt) : sumN l.reverse l.length = -sumN l l.length := by
  have e := sumN_edgs l.reverse
  rw [List.length_reverse] at e
  rw [e, sumN_edgs, sumE_perm (rev_edgs l), sumE_map (g := fun e => -crs e.1 e.2) (fun e => by unfold swS crs; grind), sumE_neg]
theorem area_mv (dx dy : Int) (l : List Pt) : sumN (l.map (mv dx dy)) l.length = sumN l l.length := by
  have h1 := fan_all (l.map (mv dx dy)) (mv dx dy (0, 0))
  have h2 := fan_all l (0, 0)
  rw [List.length_map] at h1
  have : ∀ n, n ≤ l.length → fanN (l.map (mv dx dy)) (mv dx dy (0, 0)) n = fanN l (0, 0) n := by
    intro n
    induction n with
    | zero => intro _; rfl
    | succ n ih =>
      intro hn
      rw [fanN, fanN, ih (by omega), List.length_map, mv_at dx dy (by omega), mv_at dx dy (Nat.mod_lt _ (by omega)), turn_mv]
  rw [← h1, ← h2, this _ (Nat.le_refl _)]

/-! where a point is -/
def xorL : List Bool → Bool
  | [] => false
  | b :: l => b ^^ xorL l
theorem xor_perm {a b : List Bool} (h : a.Perm b) : xorL a = xorL b := by
  induction h with
  | nil => rfl
  | cons x _ ih => simp only [xorL, ih]
  | swap x y l => simp only [xorL]; cases x <;> cases y <;> cases xorL l <;> rfl
  | trans _ _ ih1 ih2 => exact ih1.trans ih2
theorem locR_eq (q : Pt) : ∀ (l : List Sg) (b : Bool), locR q l b = if l.any (fun e => onS e q) then 0 else if b ^^ xorL (l.map fun e => rayP e q) then 1 else -1
  | [], b => by simp [locR, xorL]
  | e :: l, b => by
    rw [locR, locR_eq q l]
    simp only [List.any_cons, List.map_cons, xorL]
    have hx : ((b ^^ rayP e q) ^^ xorL (l.map fun e => rayP e q)) = (b ^^ (rayP e q ^^ xorL (l.map fun e => rayP e q))) := Bool.xor_assoc _ _ _
    rw [hx]
    cases onS e q
    · simp only [Bool.false_or]; rfl
    · simp only [Bool.true_or, if_true]
theorem locR_perm (q : Pt) {a b : List Sg} (h : a.Perm b) : locR q a false = locR q b false := by
  rw [locR_eq, locR_eq, xor_perm (h.map _)]
  have : a.any (fun e => onS e q) = b.any (fun e => onS e q) := by
    rw [Bool.eq_iff_iff, List.any_eq_true, List.any_eq_true]
    exact ⟨fun ⟨x, h1, h2⟩ => ⟨x, h.mem_iff.1 h1, h2⟩, fun ⟨x, h1, h2⟩ => ⟨x, h.mem_iff.2 h1, h2⟩⟩
  rw [this]
theorem ray_sw (e : Sg) (q : Pt) : rayP (swS e) q = rayP e q := by
  unfold rayP swS
  simp only
  by_cases h1 : e.2.2 < e.1.2
  · rw [if_pos h1, if_neg (by omega)]
  · by_cases h2 : e.1.2 < e.2.2
    · rw [if_neg h1, if_pos h2]
    · rw [if_neg h1, if_neg h2]
      simp only
      have : e.1.2 = e.2.2 := by omega
      rw [Bool.eq_iff_iff]
      simp only [Bool.and_eq_true, decide_eq_true_eq]
      omega
theorem locR_sw (q : Pt) (l : List Sg) : locR q (l.map swS) false = locR q l false := by
  rw [locR_eq, locR_eq, List.map_map, List.any_map]
  have h1 : (fun e => onS e q) ∘ swS = fun e => onS e q := by funext e; exact onS_sw e q
  have h2 : (fun e => rayP e q) ∘ swS = fun e => rayP e q := by funext e; exact ray_sw e q
  rw [h1, h2]
theorem loc_rev (q : Pt) (l : List Pt) : locR q (edgs l.reverse) false = locR q (edgs l) false := by
  rw [locR_perm q (rev_edgs l), locR_sw]
theorem loc_on {q : Pt} {l : List Sg} : locR q l false = 0 ↔ ∃ e ∈ l, onS e q = true := by
  rw [locR_eq]
  cases h : l.any (fun e => onS e q) with
  | true => simp only [if_true, true_iff]; simpa using h
  | false =>
    simp only [Bool.false_eq_true, if_false]
    refine ⟨fun e => ?_, fun ⟨e, h1, h2⟩ => ?_⟩
    · split at e <;> simp at e
    · rw [List.any_eq_false] at h
      exact absurd h2 (h e h1)
theorem xor_false : ∀ {l : List Bool}, (∀ b ∈ l, b = false) → xorL l = false
  | [], _ => rfl
  | b :: l, h => by rw [xorL, h b (by simp), xor_false fun c hc => h c (by simp [hc])]; rfl
/-- A point to the right of all vertices is outside. -/
theorem loc_right {l : List Pt} {q : Pt} (h : ∀ p ∈ l, p.1 < q.1) (h0 : 0 < l.length) : locR q (edgs l) false = -1 := by
  have hm : ∀ e ∈ edgs l, e.1.1 < q.1 ∧ e.2.1 < q.1 := by
    intro e he
    obtain ⟨i, hi, rfl⟩ := List.mem_map.1 he
    have := List.mem_range.1 hi
    exact ⟨h _ (pA_mem this), h _ (pA_mem (Nat.mod_lt _ h0))⟩
  rw [locR_eq]
  have h1 : (edgs l).any (fun e => onS e q) = false := by
    rw [List.any_eq_false]
    intro e he hc
    have := hm e he
    simp only [onS, btw, Bool.and_eq_true, decide_eq_true_eq] at hc
    omega
  have h2 : xorL ((edgs l).map fun e => rayP e q) = false := by
    refine xor_false fun b hb => ?_
    obtain ⟨e, he, rfl⟩ := List.mem_map.1 hb
    have hx := hm e he
    unfold rayP
    simp only
    have key : ∀ f : Sg, f.1.1 < q.1 → f.2.1 < q.1 → (decide (f.1.2 ≤ q.2) && decide (q.2 < f.2.2) && decide (0 < turn f.1 f.2 q)) = false := by
      intro f a1 a2
      rw [Bool.eq_false_iff]
      intro hc
      simp only [Bool.and_eq_true, decide_eq_true_eq] at hc
      obtain ⟨⟨c1, c2⟩, c3⟩ := hc
      unfold turn at c3
      have m1 : 0 ≤ (f.2.2 - q.2) * (q.1 - f.1.1) := Int.mul_nonneg (by omega) (by omega)
      have m2 : 0 ≤ (q.2 - f.1.2) * (q.1 - f.2.1) := Int.mul_nonneg (by omega) (by omega)
      have : (f.2.1 - f.1.1) * (q.2 - f.1.2) - (f.2.2 - f.1.2) * (q.1 - f.1.1) = -((f.2.2 - q.2) * (q.1 - f.1.1)) - (q.2 - f.1.2) * (q.1 - f.2.1) := by grind
      omega
    split
    · exact key _ hx.2 hx.1
    · exact key _ hx.1 hx.2
  rw [h1, h2]; rfl
end Go.Pl
