/- Ordered lists without repetition, in general: inserted one by one, or sorted and compacted. -/
import Derived.Test.YtlcndghaendieaaPl1
set_option linter.unusedVariables false
set_option linter.unusedSectionVars false
namespace Go.Pl

section
variable {α : Type} [DecidableEq α] (lt : α → α → Bool)
/-- A strict total order. -/
structure Tot : Prop where
  irrefl : ∀ x, lt x x = false
  trans : ∀ x y z, lt x y = true → lt y z = true → lt x z = true
  total : ∀ x y, lt x y = false → lt y x = false → x = y
def AscG (l : List α) : Prop := l.Pairwise fun a b => lt a b = true
/-- A point put at its place, unless it is there. -/
def addG (p : α) : List α → List α
  | [] => [p]
  | x :: l => if lt x p then x :: addG p l else if x = p then x :: l else p :: x :: l
def insG (l : List α) : List α := l.foldl (fun m p => addG lt p m) []
/-- Neighbours that are equal are taken once. -/
def cpG : α → List α → List α
  | _, [] => []
  | q, x :: l => if x = q then cpG x l else x :: cpG x l
def compG : List α → List α
  | [] => []
  | x :: l => x :: cpG x l
variable {lt}
theorem mem_addG {p x : α} : ∀ {l : List α}, x ∈ addG lt p l ↔ x = p ∨ x ∈ l
  | [] => by simp [addG]
  | y :: l => by
    rw [addG]
    split
    · rw [List.mem_cons, mem_addG, List.mem_cons]
      constructor
      · rintro (h | h | h)
        · exact .inr (.inl h)
        · exact .inl h
        · exact .inr (.inr h)
      · rintro (h | h | h)
        · exact .inr (.inl h)
        · exact .inl h
        · exact .inr (.inr h)
    · split
      · rename_i h; subst h; simp
      · simp
variable (T : Tot lt)
include T
theorem Tot.asymm {x y : α} (h : lt x y = true) : lt y x = false := by
  cases hc : lt y x with
  | false => rfl
  | true => have := T.trans _ _ _ h hc; rw [T.irrefl] at this; cases this
theorem asc_addG {p : α} : ∀ {l : List α}, AscG lt l → AscG lt (addG lt p l)
  | [], _ => by simp [addG, AscG]
  | y :: l, h => by
    have h1 := List.pairwise_cons.1 h
    rw [addG]
    split
    · rename_i hy
      refine List.pairwise_cons.2 ⟨fun a ha => ?_, asc_addG h1.2⟩
      rcases mem_addG.1 ha with rfl | ha
      · exact hy
      · exact h1.1 a ha
    · split
      · exact h
      · rename_i hy hne
        have hp : lt p y = true := by
          cases hc : lt p y with
          | true => rfl
          | false => exact absurd (T.total _ _ (by simpa using hy) hc) hne
        refine List.pairwise_cons.2 ⟨fun a ha => ?_, h⟩
        rcases List.mem_cons.1 ha with rfl | ha
        · exact hp
        · exact T.trans _ _ _ hp (h1.1 a ha)
theorem fold_addG : ∀ {l m : List α}, AscG lt m → AscG lt (l.foldl (fun m p => addG lt p m) m) ∧ ∀ x, x ∈ l.foldl (fun m p => addG lt p m) m ↔ x ∈ l ∨ x ∈ m
  | [], m, h => ⟨h, fun x => by simp⟩
  | y :: l, m, h => by
    obtain ⟨h1, h2⟩ := fold_addG (l := l) (asc_addG T (p := y) h)
    refine ⟨h1, fun x => ?_⟩
    rw [List.foldl_cons, h2, mem_addG, List.mem_cons]
    constructor
    · rintro (h | h | h)
      · exact .inl (.inr h)
      · exact .inl (.inl h)
      · exact .inr h
    · rintro ((h | h) | h)
      · exact .inr (.inl h)
      · exact .inl h
      · exact .inr (.inr h)
theorem asc_insG (l : List α) : AscG lt (insG lt l) := (fold_addG T (l := l) (m := []) List.Pairwise.nil).1
theorem mem_insG {l : List α} {x : α} : x ∈ insG lt l ↔ x ∈ l := by
  have := (fold_addG T (l := l) (m := []) List.Pairwise.nil).2 x
  simpa [insG] using this
theorem asc_uniqueG : ∀ {a b : List α}, AscG lt a → AscG lt b → (∀ x, x ∈ a ↔ x ∈ b) → a = b
  | [], [], _, _, _ => rfl
  | [], y :: b, _, _, h => absurd ((h y).2 (by simp)) (by simp)
  | x :: a, [], _, _, h => absurd ((h x).1 (by simp)) (by simp)
  | x :: a, y :: b, ha, hb, h => by
    have h1 := List.pairwise_cons.1 ha
    have h2 := List.pairwise_cons.1 hb
    have hxy : x = y := by
      rcases List.mem_cons.1 ((h x).1 (by simp)) with e | e
      · exact e
      · rcases List.mem_cons.1 ((h y).2 (by simp)) with e2 | e2
        · exact e2.symm
        · have := T.asymm (h1.1 y e2)
          rw [h2.1 x e] at this; cases this
    subst hxy
    rw [asc_uniqueG h1.2 h2.2 fun z => ?_]
    have hz := h z
    simp only [List.mem_cons] at hz
    constructor
    · intro hm
      rcases hz.1 (.inr hm) with e | e
      · subst e; have := h1.1 z hm; rw [T.irrefl] at this; cases this
      · exact e
    · intro hm
      rcases hz.2 (.inr hm) with e | e
      · subst e; have := h2.1 z hm; rw [T.irrefl] at this; cases this
      · exact e
theorem cpG_spec : ∀ {l : List α} {q : α}, (q :: l).Pairwise (fun a b => lt b a = false) → AscG lt (q :: cpG q l) ∧ ∀ x, x ∈ q :: cpG q l ↔ x ∈ q :: l
  | [], q, _ => by simp [cpG, AscG]
  | y :: l, q, h => by
    have hq := List.pairwise_cons.1 h
    obtain ⟨h1, h2⟩ := cpG_spec hq.2
    rw [cpG]
    split
    · rename_i e; subst e
      refine ⟨h1, fun x => ?_⟩
      rw [h2]; simp
    · rename_i hne
      have hqy : lt q y = true := by
        cases hc : lt q y with
        | true => rfl
        | false => exact absurd (T.total _ _ (hq.1 y (by simp)) hc) hne
      refine ⟨List.pairwise_cons.2 ⟨fun a ha => ?_, h1⟩, fun x => ?_⟩
      · rcases List.mem_cons.1 ha with rfl | ha
        · exact hqy
        · exact T.trans _ _ _ hqy ((List.pairwise_cons.1 h1).1 a ha)
      · rw [List.mem_cons, h2]; simp
theorem compG_spec {l : List α} (h : l.Pairwise (fun a b => lt b a = false)) : AscG lt (compG l) ∧ ∀ x, x ∈ compG l ↔ x ∈ l := by
  cases l with
  | nil => simp [compG, AscG]
  | cons x l => exact cpG_spec T h
/-- Sorted and compacted is the same as inserted one by one. -/
theorem comp_sortG (l : List α) : compG (l.mergeSort fun x y => !lt y x) = insG lt l := by
  have hs : (l.mergeSort fun x y => !lt y x).Pairwise (fun a b => lt b a = false) := by
    have := List.pairwise_mergeSort (le := fun x y => !lt y x) (fun a b c h1 h2 => by
      simp only [Bool.not_eq_true'] at *
      cases hc : lt c a with
      | false => rfl
      | true =>
        cases hab : lt a b with
        | true => have := T.trans _ _ _ hc hab; rw [this] at h2; cases h2
        | false => have := T.total _ _ hab h1; subst this; rw [hc] at h2; cases h2)
      (fun a b => by
        cases h1 : lt b a with
        | false => rfl
        | true => simp [T.asymm h1]) l
    refine this.imp fun h => by simpa using h
  obtain ⟨h1, h2⟩ := compG_spec T hs
  exact asc_uniqueG T h1 (asc_insG T l) fun x => by rw [h2, mem_insG T, List.mem_mergeSort]
end
end Go.Pl
