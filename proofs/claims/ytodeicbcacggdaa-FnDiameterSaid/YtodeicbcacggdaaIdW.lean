/- From a pure contract to a call in a world: slices that came in. -/
import Derived.Test.YtodeicbcacggdaaIdU
import Derived.Below
set_option linter.unusedVariables false
set_option linter.unusedSimpArgs false
namespace Go.Ideal
open Go

/-- A slice of numbers that came in: nil, or a row of cap cells, the numbers zs. -/
def IsRow (k : IntKind) (w : World) (a : Option Addr) (len cap : Nat) (zs : List Int) : Prop :=
  (a = none ∧ len = 0 ∧ cap = 0 ∧ zs = []) ∨
  ∃ x, a = some x ∧ len ≤ cap ∧ cap ≤ maxLen ∧ zs.length = cap ∧ (∀ i, i < zs.length → w.cell? (x.add i) = some (.int k (zs.getD i 0))) ∧ ∀ n ∈ zs, (Lit.int k n).wf = true

theorem isRow_rep {k : IntKind} {w : World} {a : Option Addr} {len cap : Nat} {zs : List Int} (h : IsRow k w a len cap zs) : RepV (bare (fun _ => False) w) (.sl 1 ((zs.take len).map (IV.num k))) (.slice a len cap) := by
  simp only [RepV]
  rcases h with ⟨rfl, rfl, rfl, rfl⟩ | ⟨x, rfl, h1, h2, h3, h4, h5⟩
  · exact ⟨none, 0, 0, rfl, rfl, Nat.le_refl _, Nat.zero_le _, fun _ => rfl, fun id => by simp [IV.mentL], fun h => absurd h (Nat.lt_irrefl 0)⟩
  · have hl : ((zs.take len).map (IV.num k)).length = len := by simp; omega
    refine ⟨some x, len, cap, rfl, hl.symm, h1, h2, (by intro h; simp at h), noIdL_of (fun y hy => ?_), fun h0 => ?_⟩
    · obtain ⟨n, _, rfl⟩ := List.mem_map.1 hy
      exact fun id => rfl
    · obtain ⟨b, off, spot⟩ := x
      have hc := h4 0 (by omega)
      have hspot : spot = none := by simpa [Addr.add] using World.cell?_spot hc
      subst hspot
      have hcb : w.cell? ⟨b, off, none⟩ = some (.int k (zs.getD 0 0)) := by simpa [Addr.add] using hc
      refine ⟨b, off, rfl, fun h => h, lt_of_cell (w := w) (o := off) hcb, RepR_of fun i hi => ?_⟩
      have hi' : i < len := by rw [hl] at hi; exact hi
      refine ⟨.int k (zs.getD i 0), ?_, ⟨rfl, by intro u hu; simp [Value.cells] at hu; subst hu; rfl, rfl, by decide⟩, fun j hj => ?_⟩
      · have : (zs.take len).length = len := by simp; omega
        have e : ((zs.take len).map (IV.num k)).getD i .junk = .num k (zs.getD i 0) := by
          simp [List.getD, List.getElem?_take, hi', show i < zs.length by omega]
        rw [e]; rfl
      · have : j = 0 := by omega
        subst this
        have hci := h4 i (by omega)
        rw [Addr.add_lit] at hci
        show w.cell? _ = _
        rw [Nat.mul_one, Nat.add_zero, hci]
        rfl

theorem row_bytes {w : World} {a : Option Addr} {len cap : Nat} {zs : List Int} (h : IsRow .u8 w a len cap zs) : ∀ x ∈ zs.take len, 0 ≤ x ∧ x < 256 := by
  intro x hx
  have hx := List.mem_of_mem_take hx
  rcases h with ⟨_, _, _, rfl⟩ | ⟨y, _, _, _, _, _, h5⟩
  · simp at hx
  · have := h5 x hx
    simp [Lit.wf, IntKind.min, IntKind.max, IntKind.signed, IntKind.bits] at this
    omega

theorem calls_of_icall {P : Program} {f : FuncId} {args : List IV} {vs : List Value} {w : World} (h : ICall P f args (.bool true)) (hL : RepL (bare (fun _ => False) w) args vs) :
    Calls P f ⟨vs⟩ w fun e w' => e = .returned (.bool true) ∧ RowKit.Below w.heap.size w w' := by
  refine (h (fun _ => False) w vs (fun _ h => h.elim) hL).mono ?_
  rintro e w' ⟨x, rfl, hc, hv⟩
  simp only [RepV] at hv
  subst hv
  exact ⟨rfl, hc.os, hc.tape, hc.output, hc.size, fun k hk => hc.block k hk (fun h => h)⟩

end Go.Ideal
