import Derived.Test.YtlcndghaendieaaPl18
import Derived.Test.YtlcndghaendieaaPl11
/- Points of fractions inserted in any order; crossings of segments in any order. -/
set_option linter.unusedVariables false
set_option linter.unusedSimpArgs false
namespace Go.Pl

theorem foldQ_off : ∀ (m : List GQ) (a : List GQ), (offG m).foldl addQ (offG a) = offG (m.foldl (fun m p => addG ltG p m) a)
  | [], a => rfl
  | x :: m, a => by
    show (offG m).foldl addQ (addQ (offG a) x.1) = _
    rw [addQ_off, foldQ_off m]; rfl
theorem mem_sub {l : List QP} {x : GQ} : x ∈ subQ l ↔ x.1 ∈ l := by
  induction l with
  | nil => simp [subQ]
  | cons q l ih =>
    rw [subQ]
    by_cases h : goodQ q
    · rw [dif_pos h, List.mem_cons, List.mem_cons, ih]
      constructor
      · rintro (h1 | h1)
        · exact .inl (by rw [h1])
        · exact .inr h1
      · rintro (h1 | h1)
        · exact .inl (Subtype.ext h1)
        · exact .inr h1
    · rw [dif_neg h, ih, List.mem_cons]
      constructor
      · exact .inr
      · rintro (h1 | h1)
        · exact absurd (h1 ▸ x.2) h
        · exact h1
theorem foldQ_ins {l : List QP} (h : ∀ q ∈ l, goodQ q) : l.foldl addQ [] = offG (insG ltG (subQ l)) := by
  have := foldQ_off (subQ l) []
  rw [off_sub h] at this
  exact this
/-- Inserted one by one: what is in the list counts alone. -/
theorem foldQ_same {l m : List QP} (hl : ∀ q ∈ l, goodQ q) (hm : ∀ q ∈ m, goodQ q) (h : ∀ q, q ∈ l ↔ q ∈ m) : l.foldl addQ [] = m.foldl addQ [] := by
  rw [foldQ_ins hl, foldQ_ins hm]
  refine congrArg offG (asc_uniqueG totG (asc_insG totG _) (asc_insG totG _) fun x => ?_)
  rw [mem_insG totG, mem_insG totG, mem_sub, mem_sub, h]

theorem cross_comm (s t : Sg) : crossesP s t = crossesP t s := by unfold crossesP; rw [Bool.and_comm]
theorem rel_comm (s t : Sg) : relP s t = relP t s := by unfold relP; rw [ends_comm, cross_comm]
theorem den_neg (s t : Sg) : denX t s = -denX s t := by unfold denX numX turn; grind
theorem x_neg (s t : Sg) : t.1.1 * denX t s + (t.2.1 - t.1.1) * numX t s = -(s.1.1 * denX s t + (s.2.1 - s.1.1) * numX s t) := by unfold denX numX turn; grind
theorem y_neg (s t : Sg) : t.1.2 * denX t s + (t.2.2 - t.1.2) * numX t s = -(s.1.2 * denX s t + (s.2.2 - s.1.2) * numX s t) := by unfold denX numX turn; grind
theorem rat_neg {n d : Int} (hd : d ≠ 0) : redR (sgT (decide (-d < 0)) (-n)) (sgT (decide (-d < 0)) (-d)) = redR (sgT (decide (d < 0)) n) (sgT (decide (d < 0)) d) := by
  have key : ∀ x, sgT (decide (-d < 0)) (-x) = sgT (decide (d < 0)) x := by
    intro x
    unfold sgT
    by_cases c : d < 0
    · rw [if_neg (by simp; omega), if_pos (by simpa using c)]
    · rw [if_pos (by simp; omega), if_neg (by simpa using c)]; omega
  rw [key, key]
theorem prow_all {a k j : Nat} (h : j < k) : ((a : Int), ((a + 1 + j : Nat) : Int)) ∈ prow a k := by
  simp only [prow, List.mem_map, List.mem_range]
  exact ⟨j, h, rfl⟩
theorem prs_all {n i j : Nat} (h1 : i < j) (h2 : j < n) : ∀ a, i < a → a ≤ n → ((i : Int), (j : Int)) ∈ prs n a
  | 0, h, _ => by omega
  | a + 1, h, ha => by
    rw [prs, List.mem_append]
    rcases Nat.lt_or_ge i a with c | c
    · exact .inl (prs_all h1 h2 a c (by omega))
    · have : i = a := by omega
      subst this
      refine .inr ?_
      have := prow_all (a := i) (k := n - (i + 1)) (j := j - (i + 1)) (by omega)
      rwa [show i + 1 + (j - (i + 1)) = j by omega] at this
/-- All pairs, of a list or of the list backwards. -/
theorem prs_flat_mem {β : Type} {n : Nat} {f : Pt → List β} {q : β} : q ∈ (prs n n).flatMap f ↔ ∃ i j : Nat, i < j ∧ j < n ∧ q ∈ f ((i : Int), (j : Int)) := by
  rw [List.mem_flatMap]
  constructor
  · rintro ⟨p, hp, hq⟩
    obtain ⟨i, j, h1, h2, rfl⟩ := prs_mem (Nat.le_refl _) hp
    exact ⟨i, j, h1, h2, hq⟩
  · rintro ⟨i, j, h1, h2, hq⟩
    exact ⟨_, prs_all h1 h2 n (by omega) (Nat.le_refl _), hq⟩
theorem prs_back {β : Type} {n : Nat} {f g : Pt → List β} (h : ∀ i j : Nat, i < j → j < n → f ((i : Int), (j : Int)) = g (((n - 1 - j : Nat) : Int), ((n - 1 - i : Nat) : Int))) {q : β} : q ∈ (prs n n).flatMap f ↔ q ∈ (prs n n).flatMap g := by
  rw [prs_flat_mem, prs_flat_mem]
  constructor
  · rintro ⟨i, j, h1, h2, hq⟩
    exact ⟨n - 1 - j, n - 1 - i, by omega, by omega, by rw [← h i j h1 h2]; exact hq⟩
  · rintro ⟨i, j, h1, h2, hq⟩
    refine ⟨n - 1 - j, n - 1 - i, by omega, by omega, ?_⟩
    rw [h _ _ (by omega) (by omega), show n - 1 - (n - 1 - i) = i by omega, show n - 1 - (n - 1 - j) = j by omega]
    exact hq
end Go.Pl
