/- Code without loops, at one go: what it asks. -/
import Derived.Test.YtodeicbcacggdaaIdO
set_option linter.unusedVariables false
set_option linter.unusedSimpArgs false
namespace Go.Ideal
open Go

/-- After the first of two: a normal end goes on with K, any other is the end of both. -/
def seqK (K : ISt → Prop) (Q : Exit → ISt → Prop) : Exit → ISt → Prop
  | .normal, s => K s
  | .exit i, s => Q (.exit i) s
  | .goto l, s => Q (.goto l) s
  | .ret, s => Q .ret s
  | .panic c, s => Q (.panic c) s
  | .outgrown, s => Q .outgrown s

def asB : IV → Option (Option Bool)
  | .bool b => some (some b)
  | .anyB => some none
  | _ => none

section
variable {P : Program} {T : Nat → TD} {G : List (Nat × PSpec)} {F : Fr}

theorem asB_some {v : IV} {b : Bool} (h : asB v = some (some b)) : v = .bool b := by
  cases v <;> simp [asB] at h
  rw [h]
theorem asB_none {v : IV} (h : asB v = some none) : v = .anyB := by
  cases v <;> simp [asB] at h
  rfl


end
end Go.Ideal
