/- A list of lists of ints that came in. -/
import Derived.Test.YtlcndghaendieaaBW
import Derived.Test.YtlcndghaendieaaBLi
set_option linter.unusedVariables false
set_option linter.unusedSimpArgs false
namespace Go.Proofs.Ytlcndghaendieaa
open Go Go.Ideal Go.Pl

section
variable {H : Type} {enc : TypeId × Value → H} {P : Program} {w : World} {base : Nat} {spare : Nat → Bool} {held : Bool} {t e e2 : TypeId} {fuel : Nat} {a : Option Addr} {len cap : Nat} {x : DataW H × List MemPlace}
theorem noId_encLI : ∀ L : List (List Int), noIdL (encLI L)
  | [] => fun id => rfl
  | y :: L => fun id => by
    show (IV.ment id (.sl 1 (encI y)) || IV.mentL id (encLI L)) = false
    rw [noId_encLI L id]; rfl
theorem rep_LIs (ht : P.underlying t = some (.slice e)) (he : P.underlying e = some (.slice e2)) (F : Flat P e2 1) (hc : P.cellsOf e = 1) (hc2 : P.cellsOf e2 = 1) (h : DataW.trod enc P w base spare held fuel t [.slice a len cap] = some x) :
    ∃ L : List (List Int), RepV (bare (fun _ => False) w) (.sl 1 (encLI L)) (.slice a len cap) := by
  rcases Deep.open_slice1 ht hc h with ⟨h0, _⟩ | ⟨a', len', cap', m, n, V, D, Pl, h0, hb, hl, hm, hmm, _, hx⟩
  · simp only [List.cons.injEq, Value.slice.injEq, and_true] at h0
    obtain ⟨rfl, rfl, rfl⟩ := h0
    refine ⟨[], ?_⟩
    simp only [RepV]
    exact ⟨none, 0, 0, rfl, rfl, Nat.le_refl _, Nat.zero_le _, fun _ => rfl, fun id => by simp [IV.mentL, encLI], fun h => absurd h (Nat.lt_irrefl 0)⟩
  · simp only [List.cons.injEq, Value.slice.injEq, and_true] at h0
    obtain ⟨rfl, rfl, rfl⟩ := h0
    have hle : len ≤ m := by rw [hmm]; split <;> omega
    have key : ∀ i, i < len → ∃ z : List Int, RepV (bare (fun _ => False) w) (.sl 1 (encI z)) (V i) ∧ ∃ u l c, V i = Value.slice u l c := by
      intro i hi
      obtain ⟨h1, h2⟩ := hx i (by omega)
      rcases Deep.open_slice he h2 with ⟨h3, _⟩ | ⟨b, l, c, _, _, _, _, h3, _⟩
      · have hV : V i = .slice none 0 0 := by simpa using h3
        rw [hV] at h2 ⊢
        obtain ⟨z, hz⟩ := rep_Is he F hc2 h2
        exact ⟨z, hz, _, _, _, rfl⟩
      · have hV : V i = .slice (some b) l c := by simpa using h3
        rw [hV] at h2 ⊢
        obtain ⟨z, hz⟩ := rep_Is he F hc2 h2
        exact ⟨z, hz, _, _, _, rfl⟩
    obtain ⟨Z, hZ⟩ : ∃ Z : Nat → List Int, ∀ i, i < len → RepV (bare (fun _ => False) w) (.sl 1 (encI (Z i))) (V i) ∧ ∃ u l c, V i = Value.slice u l c :=
      ⟨fun i => if hi : i < len then (key i hi).choose else [], fun i hi => by simp only [hi, dite_true]; exact (key i hi).choose_spec⟩
    refine ⟨(List.range len).map Z, ?_⟩
    have hlen : (encLI ((List.range len).map Z)).length = len := by rw [len_encLI]; simp
    simp only [RepV]
    refine ⟨some a', len, cap, rfl, hlen.symm, hl, hm, (by intro h; simp at h), noId_encLI _, fun h0 => ?_⟩
    obtain ⟨b, off, spot⟩ := a'
    have hc0 := (hx 0 (by omega)).1
    have hspot : spot = none := by simpa [Addr.add] using World.cell?_spot hc0
    subst hspot
    have hcb : w.cell? ⟨b, off, none⟩ = some (V 0) := by simpa [Addr.add] using hc0
    refine ⟨b, off, rfl, fun h => h, lt_of_cell (w := w) (o := off) hcb, RepR_of fun i hi => ?_⟩
    have hi' : i < len := by rw [hlen] at hi; exact hi
    obtain ⟨y1, u, l, c, y2⟩ := hZ i hi'
    have e : (encLI ((List.range len).map Z)).getD i .junk = .sl 1 (encI (Z i)) := by simp [encLI, List.getD, hi']
    refine ⟨V i, by rw [e]; exact y1, by rw [y2]; simp [EltOk, Value.cells, Value.oneCell', isAggV], fun j hj => ?_⟩
    have hci := (hx i (by omega)).1
    obtain rfl : j = 0 := by omega
    rw [Addr.add_lit] at hci
    show w.cell? ⟨b, off + i * 1 + 0, none⟩ = _
    rw [Nat.mul_one, Nat.add_zero, hci, y2]
    rfl
end
end Go.Proofs.Ytlcndghaendieaa
