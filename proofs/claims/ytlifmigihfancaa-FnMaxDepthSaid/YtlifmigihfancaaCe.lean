/- The library's sort of an own list of ints. -/
import Derived.Test.YtlifmigihfancaaCc
import Derived.Shelf.Sort.Plain
set_option linter.unusedVariables false
set_option linter.unusedSimpArgs false
namespace Go.Ideal
open Go Go.Sort Go.Shelf Go.Proofs Go.Lib

abbrev iI (x : Int) : IV := .num .i64 x
abbrev eI (x : Int) : Value := .int .i64 x
theorem encI_ok : Enc 1 iI eI := ⟨fun c x v => by simp only [iI, RepV, eI], fun x => ⟨rfl, by simp [eI, Value.cells, Value.oneCell'], rfl, Nat.le_refl _⟩, fun x id => rfl⟩
theorem sortI_hcall {P : Program} {ρ : Ren} (L : Lays.n189 P ρ) (l : List Int) (full : Bool) (hsz : l.length < 4611686018427387904) (ty : TypeId) :
    HCall P (ρ.f 189) [.ref 1000 0 l.length full] [(1000, some (.arr 1 ty (l.map iI)))] (.tup [])
      [(1000, some (.arr 1 ty ((l.mergeSort fun x y => decide (x ≤ y)).map iI)))] := by
  intro F μ κ vs RH hL
  have he := encI_ok
  obtain ⟨⟨cur, h1, h2, h3, h4, h5, h6, h7⟩, hA, hB⟩ := RH.own 1000 _ (by simp [lkH]; rfl)
  have hsh : (ctx F μ κ [(1000, some (IBlk.arr 1 ty (l.map iI)))] F.w0).sh 1000 = some 1 := by simp [ctx, lkH, IBlk.shape]
  simp only [RepL] at hL
  obtain ⟨v1, r1, rfl, hv1, rfl⟩ := hL
  simp only [RepV] at hv1
  obtain ⟨a, cp, rfl, han, ha⟩ := hv1
  obtain ⟨hncp, hoff, _, haddr⟩ := ha 1 h4 hsh
  have ea := haddr (.inr trivial)
  subst ea
  have hlt : μ 1000 < F.w0.heap.size := (Array.getElem?_eq_some_iff.1 h1).1
  have hold : ∀ i, i < l.length → F.w0.cell? ⟨μ 1000, i, none⟩ = some (eI (l.getD i 0)) := by
    intro i hi
    obtain ⟨x, hx, hko, hc⟩ := h7.get i (by simpa using hi)
    rw [getD_map (d := 0) hi, he.rep] at hx
    subst hx
    have := hc 0 (by decide)
    simp [eI, Value.cells] at this ⊢
    exact this
  have hHolds : Holds eI F.w0 (μ 1000) 0 l.toArray := by
    intro t ht
    have ht' : t < l.length := by simpa using ht
    refine ⟨?_, frozen_plain h1⟩
    rw [Nat.zero_add, hold t ht']
    simp [List.getD, ht']
  let d' : List Int := l.mergeSort fun x y => decide (x ≤ y)
  have hdl' : d'.length = l.length := by simp [d']
  have hcall := Any.slices_Sort_int L (μ 1000) 0 cp l F.w0 hHolds hlt hsz
  refine hcall.mono ?_
  rintro r w' ⟨rfl, m, os, rfl⟩
  rw [putRow_one]
  obtain ⟨hchg, hheap⟩ := rowWorld F.w0 m (μ 1000) 0 (d'.toArray.map eI) os h1
  refine ⟨.tuple #[], μ, κ, rfl, ?_, by simp only [RepV, RepL]; exact ⟨_, rfl, rfl⟩⟩
  refine ⟨hchg.mono (fun x hx ex => ?_), fun i j hi hj _ => ?_, fun i b hb => ?_, RH.pin⟩
  · subst ex
    rcases hB with h | h
    · exact h
    · omega
  · rw [lk1] at hi hj
    split at hi <;> split at hj <;> simp_all
  · rw [lk1] at hb
    split at hb
    · rename_i hi
      subst hi
      injection hb with hb
      subst hb
      refine ⟨⟨_, hheap, by have := h2; simp only [putCells, Array.size_mapIdx]; exact this, h3, h4, ?_, ?_, ?_⟩, hA, hB⟩
      · simp only [List.length_map, List.length_mergeSort] at h5 ⊢
        exact h5
      · exact noIdL_of fun x hx => by obtain ⟨y, _, rfl⟩ := List.mem_map.1 hx; exact he.no y
      · refine RepR_of fun i hi => ?_
        have hil : i < d'.length := by
          have h0 := hi
          rw [List.length_map] at h0
          exact h0
        refine ⟨eI (d'.getD i 0), ?_, he.ok _, fun j hj => ?_⟩
        · rw [getD_map (d := 0) hil, he.rep]
        · have hj0 : j = 0 := by omega
          subst hj0
          refine (cell_of_row _ _ _ _ _ _ hheap).trans ?_
          have hcur : cur[i]? = some (eI (l.getD i 0)) := (cell_of_row _ _ _ _ _ _ h1).symm.trans (hold i (by omega))
          simp only [putCells, Array.getElem?_mapIdx, Nat.zero_add, Nat.mul_one, Nat.add_zero]
          rw [hcur]
          simp [hil, eI, Value.cells, List.getD]
    · cases hb
end Go.Ideal
