/- Small helpers of the walks: numbers, rows. -/
import Derived.Test.YtodeicbcacggdaaIdU
import Derived.IntWalk
set_option linter.unusedVariables false
set_option linter.unusedSimpArgs false
namespace Go.Ideal
open Go

theorem maxLen_eq : maxLen = 9223372036854775807 := by decide
theorem wr {x : Int} (h1 : -9223372036854775808 ≤ x) (h2 : x ≤ 9223372036854775807) : IntKind.i64.wrap x = x := IntWalk.i64_in x ⟨h1, h2⟩
theorem wr_succ {i n : Nat} (h : i < n) (hn : n ≤ maxLen) : IntKind.i64.wrap ((i : Int) + 1) = ((i + 1 : Nat) : Int) := by
  rw [maxLen_eq] at hn
  rw [wr (by omega) (by omega)]
  omega

/-- A row of elements of one kind. -/
theorem getD_map {α : Type} {f : α → IV} {l : List α} {i : Nat} {d : α} (h : i < l.length) : (l.map f).getD i .junk = f (l.getD i d) := by
  simp [h]
theorem getD_map' {α : Type} {f : α → IV} {l : List α} {i : Int} {d : α} (h0 : 0 ≤ i) (h : i < l.length) : (l.map f).getD i.toNat .junk = f (l.getD i.toNat d) := getD_map (by omega)

theorem eq_of_getD {α : Type} {d : α} {a b : List α} (h : a.length = b.length) (hj : ∀ j, j < a.length → a.getD j d = b.getD j d) : a = b := by
  apply List.ext_getElem h
  intro i h1 h2
  have := hj i h1
  simpa [List.getD, h1, h2] using this

theorem bft : (false == true) = false := rfl
theorem btf : (true == false) = false := rfl
theorem ex_clo (a : FuncId) (b : List IV) : (∃ g caps, IV.clo a b = IV.clo g caps) = True := eq_true ⟨a, b, rfl⟩

end Go.Ideal
