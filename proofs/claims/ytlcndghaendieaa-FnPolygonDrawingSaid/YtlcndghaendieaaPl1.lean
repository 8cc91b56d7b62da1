/- Points in order: plain facts on lists, with no program in sight. -/
set_option linter.unusedVariables false
set_option linter.unusedSimpArgs false
namespace Go.Pl

abbrev Pt := Int × Int

def ltP (p q : Pt) : Bool := decide (p.1 < q.1) || (p.1 == q.1 && decide (p.2 < q.2))

theorem ltP_iff {p q : Pt} : ltP p q = true ↔ p.1 < q.1 ∨ (p.1 = q.1 ∧ p.2 < q.2) := by simp [ltP]
theorem ltP_irrefl (p : Pt) : ltP p p = false := by simp [ltP]
theorem ltP_trans {p q r : Pt} (h : ltP p q = true) (k : ltP q r = true) : ltP p r = true := by
  rw [ltP_iff] at *; omega
theorem ltP_asymm {p q : Pt} (h : ltP p q = true) : ltP q p = false := by
  cases k : ltP q p with
  | false => rfl
  | true => rw [ltP_iff] at *; omega
theorem ltP_total {p q : Pt} (h : ltP p q = false) (k : ltP q p = false) : p = q := by
  have h' : ¬ (ltP p q = true) := by simp [h]
  have k' : ¬ (ltP q p = true) := by simp [k]
  rw [ltP_iff] at h' k'
  apply Prod.ext <;> omega
theorem ltP_ne {p q : Pt} (h : ltP p q = true) : p ≠ q := by
  rintro rfl; rw [ltP_irrefl] at h; cases h

/-- In order, each once. -/
def Asc (l : List Pt) : Prop := l.Pairwise fun a b => ltP a b = true

/-- A point is put into a list in order, once. -/
def addP : List Pt → Pt → List Pt
  | [], p => [p]
  | x :: l, p => if ltP x p then x :: addP l p else if x == p then x :: l else p :: x :: l
def insP (l : List Pt) : List Pt := l.foldl addP []

theorem mem_addP {l : List Pt} {p x : Pt} : x ∈ addP l p ↔ x = p ∨ x ∈ l := by
  induction l with
  | nil => simp [addP]
  | cons y l ih =>
    simp only [addP]
    split
    · simp only [List.mem_cons, ih]
      constructor
      · rintro (h | h | h) <;> simp [h]
      · rintro (h | h | h) <;> simp [h]
    · split
      · rename_i h
        have h : y = p := by simpa using h
        subst h
        simp
      · simp

theorem asc_addP {l : List Pt} {p : Pt} (h : Asc l) : Asc (addP l p) := by
  induction l with
  | nil => simp [addP, Asc]
  | cons y l ih =>
    have h0 := h
    unfold Asc at h
    rw [List.pairwise_cons] at h
    simp only [addP]
    split
    · rename_i hy
      unfold Asc
      rw [List.pairwise_cons]
      refine ⟨fun x hx => ?_, ih h.2⟩
      rcases mem_addP.1 hx with rfl | hx
      · exact hy
      · exact h.1 x hx
    · rename_i hy
      split
      · exact h0
      · rename_i hne
        have hlt : ltP p y = true := by
          cases k : ltP p y with
          | true => rfl
          | false => exact absurd (by simpa using ltP_total (by simpa using hy) k) hne
        unfold Asc
        rw [List.pairwise_cons]
        refine ⟨fun x hx => ?_, h0⟩
        rcases List.mem_cons.1 hx with rfl | hx
        · exact hlt
        · exact ltP_trans hlt (h.1 x hx)

theorem fold_add {l m : List Pt} (h : Asc m) : Asc (l.foldl addP m) ∧ ∀ x, x ∈ l.foldl addP m ↔ x ∈ m ∨ x ∈ l := by
  induction l generalizing m with
  | nil => exact ⟨h, by simp⟩
  | cons y l ih =>
    obtain ⟨h1, h2⟩ := ih (asc_addP (p := y) h)
    refine ⟨h1, fun x => ?_⟩
    rw [List.foldl_cons, h2 x, mem_addP]
    simp only [List.mem_cons]
    constructor
    · rintro ((h | h) | h) <;> simp [h]
    · rintro (h | h | h) <;> simp [h]
theorem asc_insP (l : List Pt) : Asc (insP l) := (fold_add (by simp [Asc])).1
theorem mem_insP {l : List Pt} {x : Pt} : x ∈ insP l ↔ x ∈ l := by
  rw [insP, (fold_add (l := l) (m := []) (by simp [Asc])).2 x]; simp

/-- Two lists in order with the same points are the same. -/
theorem asc_unique : ∀ {a b : List Pt}, Asc a → Asc b → (∀ x, x ∈ a ↔ x ∈ b) → a = b
  | [], [], _, _, _ => rfl
  | [], y :: b, _, _, h => absurd ((h y).2 (by simp)) (by simp)
  | x :: a, [], _, _, h => absurd ((h x).1 (by simp)) (by simp)
  | x :: a, y :: b, ha, hb, h => by
    unfold Asc at ha hb
    rw [List.pairwise_cons] at ha hb
    have hxy : x = y := by
      have h1 : x ∈ y :: b := (h x).1 (by simp)
      have h2 : y ∈ x :: a := (h y).2 (by simp)
      rcases List.mem_cons.1 h1 with e | h1
      · exact e
      · rcases List.mem_cons.1 h2 with e | h2
        · exact e.symm
        · have q1 := hb.1 x h1
          have q2 := ha.1 y h2
          rw [ltP_asymm q1] at q2
          cases q2
    subst hxy
    congr 1
    refine asc_unique ha.2 hb.2 fun z => ?_
    have hz := h z
    simp only [List.mem_cons] at hz
    constructor
    · intro hza
      rcases hz.1 (.inr hza) with rfl | k
      · exact absurd (ha.1 z hza) (by rw [ltP_irrefl]; simp)
      · exact k
    · intro hzb
      rcases hz.2 (.inr hzb) with rfl | k
      · exact absurd (hb.1 z hzb) (by rw [ltP_irrefl]; simp)
      · exact k

theorem insP_of_asc {l : List Pt} (h : Asc l) : insP l = l := asc_unique (asc_insP l) h fun _ => mem_insP
theorem insP_congr {l m : List Pt} (h : ∀ x, x ∈ l ↔ x ∈ m) : insP l = insP m :=
  asc_unique (asc_insP l) (asc_insP m) fun x => by rw [mem_insP, mem_insP, h x]

/-! the comparison -/
def cmpI (a b : Int) : Int := if a < b then -1 else if b < a then 1 else 0
/-- The first that is not zero. -/
def orI : List Int → Int
  | [] => 0
  | x :: l => if x = 0 then orI l else x
def cmpP (p q : Pt) : Int := orI [cmpI p.1 q.1, cmpI p.2 q.2]

theorem cmpP_neg (p q : Pt) : decide (cmpP p q < 0) = ltP p q := by
  rw [Bool.eq_iff_iff, decide_eq_true_iff, ltP_iff]
  rcases Int.lt_trichotomy p.1 q.1 with h | h | h
  · simp [cmpP, orI, cmpI, h]
  · rcases Int.lt_trichotomy p.2 q.2 with k | k | k
    · simp [cmpP, orI, cmpI, h, k]
    · simp [cmpP, orI, cmpI, h, k]
    · have k' : ¬ p.2 < q.2 := by omega
      simp [cmpP, orI, cmpI, h, k, k']
  · have h' : ¬ p.1 < q.1 := by omega
    simp [cmpP, orI, cmpI, h, h']
    omega

/-! a list without what repeats its forerunner -/
def cpF : Pt → List Pt → List Pt
  | _, [] => []
  | q, x :: l => if x == q then cpF x l else x :: cpF x l
def compactP : List Pt → List Pt
  | [] => []
  | x :: l => x :: cpF x l

def leP (p q : Pt) : Bool := !ltP q p
theorem leP_trans (a b c : Pt) (h : leP a b = true) (k : leP b c = true) : leP a c = true := by
  simp only [leP, Bool.not_eq_true'] at *
  cases hh : ltP c a with
  | false => rfl
  | true =>
    have h' : ¬ (ltP b a = true) := by simp [h]
    have k' : ¬ (ltP c b = true) := by simp [k]
    rw [ltP_iff] at *
    omega
theorem leP_total (a b : Pt) : (leP a b || leP b a) = true := by
  simp only [leP]
  cases h : ltP b a with
  | false => simp
  | true => simp [ltP_asymm h]

theorem cpF_spec : ∀ {l : List Pt} {q : Pt}, (q :: l).Pairwise (fun a b => leP a b = true) → Asc (q :: cpF q l) ∧ ∀ x, x ∈ q :: cpF q l ↔ x ∈ q :: l
  | [], q, _ => by simp [cpF, Asc]
  | y :: l, q, h => by
    have h0 := h
    rw [List.pairwise_cons] at h
    obtain ⟨h1, h2⟩ := cpF_spec h.2
    have hqy := h.1 y (by simp)
    simp only [cpF]
    split
    · rename_i e
      have e : y = q := by simpa using e
      subst e
      exact ⟨h1, fun x => by rw [h2 x]; simp⟩
    · rename_i e
      have hlt : ltP q y = true := by
        cases k : ltP q y with
        | true => rfl
        | false => exact absurd (by simpa using (ltP_total k (by simpa [leP] using hqy)).symm) e
      refine ⟨?_, fun x => ?_⟩
      · unfold Asc
        rw [List.pairwise_cons]
        refine ⟨fun x hx => ?_, h1⟩
        rcases List.mem_cons.1 hx with rfl | hx
        · exact hlt
        · unfold Asc at h1
          rw [List.pairwise_cons] at h1
          exact ltP_trans hlt (h1.1 x hx)
      · have := h2 x
        simp only [List.mem_cons] at this ⊢
        rw [this]
theorem compactP_spec {l : List Pt} (h : l.Pairwise (fun a b => leP a b = true)) : Asc (compactP l) ∧ ∀ x, x ∈ compactP l ↔ x ∈ l := by
  cases l with
  | nil => simp [compactP, Asc]
  | cons x l => exact cpF_spec h

/-- Sorting by the comparison and striking what repeats is inserting in order. -/
theorem compact_sort (l : List Pt) : compactP (l.mergeSort leP) = insP l := by
  obtain ⟨h1, h2⟩ := compactP_spec (List.pairwise_mergeSort leP_trans leP_total l)
  refine asc_unique h1 (asc_insP l) fun x => ?_
  rw [h2 x, mem_insP]
  exact (List.mergeSort_perm l leP).mem_iff

end Go.Pl
