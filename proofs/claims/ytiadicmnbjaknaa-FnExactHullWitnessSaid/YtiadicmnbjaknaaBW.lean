/- Slices of points, triples, pairs of points, numbers that came in. -/
import Derived.Test.YtiadicmnbjaknaaB1
import Derived.Test.YtiadicmnbjaknaaCb
set_option linter.unusedVariables false
set_option linter.unusedSimpArgs false
namespace Go.Proofs.Ytiadicmnbjaknaa
open Go Go.Ideal Go.Pl

theorem map_ex {α : Type} {enc : α → IV} {k : Nat} {p : List Int → Prop} : ∀ {es : List (List Int)}, (∀ z ∈ es, ∃ x : α, ivOf k z = enc x) → ∃ l : List α, es.map (ivOf k) = l.map enc
  | [], _ => ⟨[], rfl⟩
  | z :: es, h => by
    obtain ⟨x, hx⟩ := h z (by simp)
    obtain ⟨l, hl⟩ := map_ex (p := p) (es := es) fun y hy => h y (by simp [hy])
    exact ⟨x :: l, by simp [hx, hl]⟩
section
variable {H : Type} {enc : TypeId × Value → H} {P : Program} {w : World} {base : Nat} {spare : Nat → Bool} {held : Bool} {t e : TypeId} {fuel : Nat} {a : Option Addr} {len cap : Nat} {x : DataW H × List MemPlace}
theorem rep_Ps (ht : P.underlying t = some (.slice e)) (F : Flat P e 2) (hc : P.cellsOf e = 2) (h : DataW.trod enc P w base spare held fuel t [.slice a len cap] = some x) : ∃ l : List Pt, RepV (bare (fun _ => False) w) (.sl 2 (encPs l)) (.slice a len cap) := by
  obtain ⟨es, h1, h2⟩ := slice_rep ht F hc (by decide) h
  obtain ⟨l, hl⟩ := map_ex (enc := encP) (k := 2) (p := fun _ => True) (es := es) fun z hz => by
    match z, (h1 z hz).1 with
    | [u, v], _ => exact ⟨(u, v), rfl⟩
  exact ⟨l, by rw [hl] at h2; exact h2⟩
theorem rep_Ts (ht : P.underlying t = some (.slice e)) (F : Flat P e 3) (hc : P.cellsOf e = 3) (h : DataW.trod enc P w base spare held fuel t [.slice a len cap] = some x) : ∃ l : List Tr, RepV (bare (fun _ => False) w) (.sl 3 (encTs l)) (.slice a len cap) := by
  obtain ⟨es, h1, h2⟩ := slice_rep ht F hc (by decide) h
  obtain ⟨l, hl⟩ := map_ex (enc := encT) (k := 3) (p := fun _ => True) (es := es) fun z hz => by
    match z, (h1 z hz).1 with
    | [u, v, w], _ => exact ⟨(u, v, w), rfl⟩
  exact ⟨l, by rw [hl] at h2; exact h2⟩
theorem rep_Qs (ht : P.underlying t = some (.slice e)) (F : Flat P e 4) (hc : P.cellsOf e = 4) (h : DataW.trod enc P w base spare held fuel t [.slice a len cap] = some x) : ∃ l : List Qd, RepV (bare (fun _ => False) w) (.sl 4 (encQs l)) (.slice a len cap) := by
  obtain ⟨es, h1, h2⟩ := slice_rep ht F hc (by decide) h
  obtain ⟨l, hl⟩ := map_ex (enc := encQ) (k := 4) (p := fun _ => True) (es := es) fun z hz => by
    match z, (h1 z hz).1 with
    | [u, v, w, y], _ => exact ⟨((u, v), (w, y)), rfl⟩
  exact ⟨l, by rw [hl] at h2; exact h2⟩
theorem rep_Is (ht : P.underlying t = some (.slice e)) (F : Flat P e 1) (hc : P.cellsOf e = 1) (h : DataW.trod enc P w base spare held fuel t [.slice a len cap] = some x) : ∃ l : List Int, RepV (bare (fun _ => False) w) (.sl 1 (encI l)) (.slice a len cap) := by
  obtain ⟨es, h1, h2⟩ := slice_rep ht F hc (by decide) h
  obtain ⟨l, hl⟩ := map_ex (enc := IV.num .i64) (k := 1) (p := fun _ => True) (es := es) fun z hz => by
    match z, (h1 z hz).1 with
    | [u], _ => exact ⟨u, rfl⟩
  exact ⟨l, by rw [hl] at h2; exact h2⟩
end
end Go.Proofs.Ytiadicmnbjaknaa
