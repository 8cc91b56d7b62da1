/- Closed facts of the translated program, one by one, for the frame of a law. -/
import Derived.Test.YtiadicmnbjaknaaRows
import Derived.ProofKit
import Derived.JoinedOf
import Derived.Below
namespace Go.Proofs.Ytiadicmnbjaknaa
open Go.ChangeShapes Go.WideShapes Go.ChangeAt Go.RowKit

theorem and2 {a b : Bool} (h : a = true) (k : b = true) : (a && b) = true := by rw [h, k]; rfl
theorem fac_laid : laidOutB Try.prog = true := by kernel_rfl
theorem fac_mapsRowed : mapsRowed Try.prog = true := by kernel_rfl
theorem fac_stops : (Try.prog.stops == []) = true := by kernel_rfl
theorem fac_stopKnobs : (Try.prog.stopKnobs == []) = true := by kernel_rfl
theorem fac_stopsHeard : Try.prog.stopsHeard = true := by kernel_rfl
theorem fac_mayEnter : Try.prog.mayEnter = true := by kernel_rfl
theorem own : ownKnob Try.prog.godebug = none := by kernel_rfl
end Go.Proofs.Ytiadicmnbjaknaa
