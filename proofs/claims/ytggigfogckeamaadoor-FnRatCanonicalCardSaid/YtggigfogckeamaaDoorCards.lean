/-
  DERIVED. GIVEN WITH THE SEED: THE CARDS: each row of YtggigfogckeamaaDoorRows.lean that lists a variable, with what it lists TIED to the program's text (the seventh form; the later family's looks); each row that meets fmt, with fmt's text TOLD by the authors' own Lean function (tested against real Go, not proved from fmt's source: count such statements apart). THE CARD IS WHAT COUNTS. Prove the row's statement (the work); the ties are given (YtggigfogckeamaaDoorTie.lean); close each card by the builder's one call (the guide's Derived/Test/ToyasCard.lean, 'card_holds'). Laid BY PROGRAM, IN A SANDBOX (cutbox-door.mjs). By AI agents, Wed Nov 11 2026. No macro, syntax, notation, axiom, sorry.
-/
import Derived.Test.YtggigfogckeamaaDoorRows
import GoSem.ClaimSeven
namespace Go.Proofs.YtggigfogckeamaaDoor
namespace Rows

/-- THE TIED CARD OF 'laws.FnExactDecodeRat'. -/
def fnExactDecodeRatCard : Claim7 := { stood := { row := fnExactDecodeRatRow, standIns := [], harness := (true, "9733c8b7c16d9077ac4669d814512fe11f487f88693e9f6319b31c8ca7718b2b"), looks := true }, kinds := [], alts := [], laidByText := true, laidKinds := [.data, .data, .data, .sentinel, .sentinel], laidTests := true, laidLooks := .later }
def FnExactDecodeRatCardSaid : Prop := Claim7.holds Tryd.pinned (.plain (OpenSpec.ofChange fnExactDecodeRatSpec)) fnExactDecodeRatCard

/-- THE TIED CARD OF 'laws.FnRatRoundTrip'. -/
def fnRatRoundTripCard : Claim7 := { stood := { row := fnRatRoundTripRow, standIns := [], harness := (true, "9733c8b7c16d9077ac4669d814512fe11f487f88693e9f6319b31c8ca7718b2b"), looks := true }, kinds := [], alts := [], laidByText := true, laidKinds := [.data, .data, .data, .sentinel, .sentinel], laidTests := true, laidLooks := .later }
def FnRatRoundTripCardSaid : Prop := Claim7.holds Tryd.pinned (.plain (OpenSpec.ofChange fnRatRoundTripSpec)) fnRatRoundTripCard

/-- THE TIED CARD OF 'laws.FnRatCanonical'. -/
def fnRatCanonicalCard : Claim7 := { stood := { row := fnRatCanonicalRow, standIns := [], harness := (true, "9733c8b7c16d9077ac4669d814512fe11f487f88693e9f6319b31c8ca7718b2b"), looks := true }, kinds := [], alts := [], laidByText := true, laidKinds := [.data, .data, .data, .sentinel, .sentinel], laidTests := true, laidLooks := .later }
def FnRatCanonicalCardSaid : Prop := Claim7.holds Tryd.pinned (.plain (OpenSpec.ofChange fnRatCanonicalSpec)) fnRatCanonicalCard

/-- THE SECOND FORM's CARD OF 'laws.FnExactDecodeRat'. -/
def fnExactDecodeRatUptoCard : Claim7 := { stood := { row := fnExactDecodeRatUptoRow, standIns := [], harness := (true, "9733c8b7c16d9077ac4669d814512fe11f487f88693e9f6319b31c8ca7718b2b"), looks := true }, kinds := [], alts := [], laidByText := true, laidKinds := [.data, .data, .data, .sentinel, .sentinel], laidTests := true, laidLooks := .later }
def FnExactDecodeRatUptoCardSaid : Prop := Claim7.holds Tryd.pinned (.plain (OpenSpec.upto fnExactDecodeRatSpec)) fnExactDecodeRatUptoCard

/-- THE SECOND FORM's CARD OF 'laws.FnRatRoundTrip'. -/
def fnRatRoundTripUptoCard : Claim7 := { stood := { row := fnRatRoundTripUptoRow, standIns := [], harness := (true, "9733c8b7c16d9077ac4669d814512fe11f487f88693e9f6319b31c8ca7718b2b"), looks := true }, kinds := [], alts := [], laidByText := true, laidKinds := [.data, .data, .data, .sentinel, .sentinel], laidTests := true, laidLooks := .later }
def FnRatRoundTripUptoCardSaid : Prop := Claim7.holds Tryd.pinned (.plain (OpenSpec.upto fnRatRoundTripSpec)) fnRatRoundTripUptoCard

/-- THE SECOND FORM's CARD OF 'laws.FnRatCanonical'. -/
def fnRatCanonicalUptoCard : Claim7 := { stood := { row := fnRatCanonicalUptoRow, standIns := [], harness := (true, "9733c8b7c16d9077ac4669d814512fe11f487f88693e9f6319b31c8ca7718b2b"), looks := true }, kinds := [], alts := [], laidByText := true, laidKinds := [.data, .data, .data, .sentinel, .sentinel], laidTests := true, laidLooks := .later }
def FnRatCanonicalUptoCardSaid : Prop := Claim7.holds Tryd.pinned (.plain (OpenSpec.upto fnRatCanonicalSpec)) fnRatCanonicalUptoCard
end Rows
end Go.Proofs.YtggigfogckeamaaDoor
