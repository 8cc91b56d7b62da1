/- Closed facts of the translated program, one by one, for the frame of a law. -/
import Derived.Test.YtggigfogckeamaaDoorRows
import Derived.ProofKit
import Derived.JoinedOf
import Derived.Below
namespace Go.Proofs.YtggigfogckeamaaDoor
open Go.ChangeShapes Go.WideShapes Go.ChangeAt Go.RowKit

theorem and2 {a b : Bool} (h : a = true) (k : b = true) : (a && b) = true := by rw [h, k]; rfl
theorem fac_laid : laidOutB Tryd.prog = true := by kernel_rfl
theorem fac_mapsRowed : mapsRowed Tryd.prog = true := by kernel_rfl
theorem fac_stops : (Tryd.prog.stops == []) = true := by kernel_rfl
theorem fac_stopKnobs : (Tryd.prog.stopKnobs == []) = true := by kernel_rfl
theorem fac_stopsHeard : Tryd.prog.stopsHeard = true := by kernel_rfl
theorem fac_mayEnter : Tryd.prog.mayEnter = true := by kernel_rfl
theorem own : ownKnob Tryd.prog.godebug = none := by kernel_rfl
end Go.Proofs.YtggigfogckeamaaDoor
