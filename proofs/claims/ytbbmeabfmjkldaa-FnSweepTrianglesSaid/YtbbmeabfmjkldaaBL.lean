/- Contracts: lists of points turned round; lists of lists of points. -/
import Derived.Test.YtbbmeabfmjkldaaBU
set_option linter.unusedVariables false
set_option linter.unusedSimpArgs false
set_option maxHeartbeats 1600000
set_option maxRecDepth 100000
namespace Go.Proofs.Ytbbmeabfmjkldaa
open Go Go.Ideal Go.Pl Go.Sort

theorem getD_map_L {α β : Type} {f : α → β} {d : α} {e : β} {l : List α} {i : Nat} (h : i < l.length) : (l.map f).getD i e = f (l.getD i d) := by simp [List.getD, h]

def encLs (Ls : List (List Pt)) : List IV := Ls.map fun l => .sl 2 (encPs l)
theorem getD_encLs {Ls : List (List Pt)} {i : Nat} (h : i < Ls.length) : (encLs Ls).getD i .junk = .sl 2 (encPs (Ls.getD i [])) := by
  rw [encLs, getD_map_L (d := []) h]

end Go.Proofs.Ytbbmeabfmjkldaa
