/- The given card on FnExactDecodeRat: the row (for every input it returns true, and the input reads as before, where the listed variables read as the program's text lays them) and its tie. The walk is c_laws_FnExactDecodeRat; this is the frame around it. There are no further conditions. -/
import Derived.Test.YtggigfogckeamaaDoorRows
import Derived.Test.YtggigfogckeamaaDoorCards
import Derived.Test.YtggigfogckeamaaDoorTie
import Derived.WalkKit
import Derived.ProofKit
import Derived.OpenShut
import Derived.ShutString
import Derived.ChangeOld
import Derived.Below
import Derived.SevenTiedAt
import Derived.Test.YtggigfogckeamaaDoorRK
import Derived.Test.YtggigfogckeamaaDoorRI
import Derived.Test.YtggigfogckeamaaDoorCb
import Derived.Test.YtggigfogckeamaaDoorFac
namespace Go.Proofs.YtggigfogckeamaaDoor.fnExactDecodeRat
open Go Go.ChangeShapes Go.WideShapes Go.ChangeAt Go.RowKit Go.Ideal Go.Pl
open Go.ChangeMaps (open_string shut_string)
set_option linter.unusedVariables false
set_option linter.unusedSimpArgs false


theorem walk (s : ByteArray) (hs : s.size ≤ 9223372036854775806) (w : World) (hw : LaidW w) :
    Calls Tryd.prog 3 #[.string s] w fun e w' => e = .returned (.bool true) ∧ Below w.heap.size w w' := by
  refine calls_of_icallW (c_laws_FnExactDecodeRat s hs) hw ?_
  simp only [RepL, RepV]
  exact ⟨_, _, rfl, rfl, rfl⟩

set_option maxRecDepth 100000 in
theorem lifted (os : Os) (started : os.Started) (H : Type) (enc : TypeId × Value → H) :
    ReturnsInHanded {} Tryd.checked os 3 .any (fun w args => (Rows.fnExactDecodeRatSpec.pre enc Tryd.prog Tryd.f3 Rows.fnExactDecodeRatRow.domain false w args ∧ laidMet Tryd.prog Rows.fnExactDecodeRatRow.laid w) ∧ sizedMet enc Tryd.prog Tryd.f3 (OpenSpec.ofChange Rows.fnExactDecodeRatSpec) false w args) (Rows.fnExactDecodeRatSpec.post enc Tryd.prog Tryd.f3 false true false false) := by
  refine returns_laid (C := Tryd.checked) (X := fun w _ => laidMet Tryd.prog Rows.fnExactDecodeRatRow.laid w) (fun _ _ _ hh h => h.of_heap hh) own started (by kernel_rfl) Tryd.func3
    (ChangeSpec.witness_at (enc := enc) (C := Tryd.checked) (os := os) (X := fun w _ => laidMet Tryd.prog Rows.fnExactDecodeRatRow.laid w) false (World.laidAll Tryd.prog os L5) #[.string ⟨#[]⟩] 8 (World.laidAll_os _ _ _) (by kernel_rfl) (by kernel_rfl) (by kernel_rfl) (by kernel_rfl) (by kernel_rfl) (laid_met os _)) ?_
  intro W base args ds gs before hval0 hW hsz0 hL hsh
  have hval : ∀ (j : Nat) t v, Tryd.f3.params[j]? = some t → args[j]? = some v → Value.okWide Tryd.prog W .any base t v := hval0
  have hsz : (DataW.weightsEach Tryd.prog (Tryd.f3.params.toList ++ Rows.fnExactDecodeRatSpec.plain.varTypes Tryd.prog) (ds ++ gs)).all (· ≤ reachBytes) = true := hsz0
  clear hsz0
  have hW' := hW
  obtain ⟨p, q, hA0, hV, rfl, hfz, hnd⟩ := hW
  have hA : DataW.TrodAll enc Tryd.prog W 0 (fun _ => true) true Tryd.f3.params.toList args.toList ds p := hA0
  rw [Tryd.params3] at hA hval hsz
  obtain ⟨v0, vs0, d0, ds0, p0, q0, hargs, rfl, rfl, h0, r0⟩ := trodAll_cons hA
  obtain ⟨rfl, rfl, rfl⟩ := trodAll_nil r0
  obtain rfl : args = #[v0] := by cases args; simp_all
  obtain ⟨rfl, rfl⟩ := trodVars_none hV
  have hlw : LaidW W := laidW_of hL hsh
  have k0 := h0
  have lt0 : ∀ x ∈ p0, x.block < W.heap.size := by obtain ⟨m, hm⟩ := k0; exact DataW.trod_lt m _ _ _ hm

  obtain ⟨s, rfl, rfl, rfl, hs⟩ := open_string Tryd.underlying9 (hval 0 9 v0 rfl rfl) h0
  clear hA0 hval0
  have hlim : s.size ≤ 9223372036854775806 := by
    have h1 := sized_string hsz (j := 0) (t := 9) rfl rfl
    have h2 := reachBytes_lt
    have e1 : s.size = s.data.size := rfl
    have e2 : s.data.toList.length = s.data.size := Array.length_toList
    have e3 : (2 : Nat) ^ 47 = 140737488355328 := by decide
    omega
  refine (walk s hlim W hlw).mono fun e W' ⟨he, bel⟩ => ?_
  subst he
  exact ⟨_, rfl, _, _, _, [], _, [], hW', trodAll_mk1 (shut_bool Tryd.underlying4 _), (trodAll_cons_mk (Below.trod fac_laid (by kernel_rfl) (of_decide_eq_true (by kernel_rfl)) k0 bel lt0) trodAll_mk0), rfl, bel.frame _, fun h => by cases h⟩

theorem q0 : (Rows.fnExactDecodeRatRow.wf (OpenSpec.ofChange Rows.fnExactDecodeRatSpec)) = true := by kernel_rfl
theorem q3 : (Tryd.f3.params.all (Tryd.prog.readableRec ·)) = true := by kernel_rfl
theorem q4 : (namedTie Tryd.prog Rows.fnExactDecodeRatRow.named Rows.fnExactDecodeRatSpec.vars) = true := by kernel_rfl
theorem q5 : (Rows.fnExactDecodeRatRow.stops == []) = true := by kernel_rfl
theorem q7 : (Rows.fnExactDecodeRatRow.knobs == []) = true := by kernel_rfl
theorem q9 : (Rows.fnExactDecodeRatRow.inPlace == Tryd.prog.inPlace 3) = true := by kernel_rfl
theorem q10 : (Rows.fnExactDecodeRatRow.unfollowed == Tryd.prog.unfollowed 3) = true := by kernel_rfl
theorem q11 : (Rows.fnExactDecodeRatRow.recurses == Tryd.prog.recurses 3) = true := by kernel_rfl
theorem q12 : (Rows.fnExactDecodeRatRow.named == Tryd.prog.varsNamed 3) = true := by kernel_rfl
theorem q13 : (Rows.fnExactDecodeRatRow.maps == (Tryd.f3.params.toList ++ Rows.fnExactDecodeRatSpec.plain.varTypes Tryd.prog).any (Tryd.prog.mapsRec ·)) = true := by kernel_rfl
theorem q14 : (Rows.fnExactDecodeRatRow.ifaces == (Tryd.f3.params.toList ++ Rows.fnExactDecodeRatSpec.plain.varTypes Tryd.prog).any (Tryd.prog.ifacesRec ·)) = true := by kernel_rfl
theorem q15 : (Rows.fnExactDecodeRatRow.mapsOut == Tryd.prog.mapsAmong Tryd.f3.resultTypes.toList) = true := by kernel_rfl
theorem q16 : (Rows.fnExactDecodeRatRow.loops == (Tryd.f3.params.toList ++ Rows.fnExactDecodeRatSpec.plain.varTypes Tryd.prog).any (Tryd.prog.loopsFrom ·)) = true := by kernel_rfl
theorem q17 : (Rows.fnExactDecodeRatRow.wideKeys == (Tryd.f3.params.toList ++ Rows.fnExactDecodeRatSpec.plain.varTypes Tryd.prog ++ Tryd.f3.resultTypes.toList).any (Tryd.prog.wideKeysFrom ·)) = true := by kernel_rfl
theorem q18 : (Rows.fnExactDecodeRatSpec.vars.all (Tryd.prog.varReadable ·)) = true := by kernel_rfl
theorem q19 : (Tryd.f3.resultTypes.all (fun t => Tryd.prog.readableRec t && decide (t < Tryd.prog.types.size))) = true := by kernel_rfl
theorem q20 : (Rows.fnExactDecodeRatRow.ifacesOut == Tryd.f3.resultTypes.toList.any (Tryd.prog.ifacesRec ·)) = true := by kernel_rfl
theorem q21 : (Rows.fnExactDecodeRatRow.loopsOut == Tryd.f3.resultTypes.toList.any (Tryd.prog.loopsFrom ·)) = true := by kernel_rfl
theorem q22 : (Rows.fnExactDecodeRatRow.plainKeys == Tryd.prog.plainKeys) = true := by kernel_rfl
theorem q23 : Rows.fnExactDecodeRatRow.shortTexts.isNone = true := by kernel_rfl
theorem q26 : (Rows.fnExactDecodeRatRow.lifted == Tryd.prog.liftsFinal) = true := by kernel_rfl
theorem q27 : (Tryd.prog.make == some Rows.fnExactDecodeRatRow.make) = true := by kernel_rfl
theorem q28 : (Rows.fnExactDecodeRatRow.kinds == (if Rows.fnExactDecodeRatRow.domain.isEmpty then [] else Tryd.f3.params.toList.map fun t => match Tryd.prog.underlying t with | some (.int k) => some k | _ => none)) = true := by kernel_rfl
theorem q29 : (Rows.fnExactDecodeRatRow.pinned == Rows.fnExactDecodeRatRow.pinnedBy) = true := by kernel_rfl
theorem q30 : (Rows.fnExactDecodeRatRow.veiled == (Tryd.f3.params.toList ++ Rows.fnExactDecodeRatSpec.plain.varTypes Tryd.prog ++ Tryd.f3.resultTypes.toList).any (Tryd.prog.veiledRec ·)) = true := by kernel_rfl
theorem q31 : (Rows.fnExactDecodeRatRow.veiledFits Tryd.prog Tryd.f3.params.toList (Tryd.f3.params.toList ++ Rows.fnExactDecodeRatSpec.plain.varTypes Tryd.prog ++ Tryd.f3.resultTypes.toList)) = true := by kernel_rfl
set_option maxRecDepth 100000 in
theorem closed : joinedFacts Tryd.prog 3 Tryd.f3 Rows.fnExactDecodeRatSpec Rows.fnExactDecodeRatRow = true := by
  unfold joinedFacts
  exact (and2 (and2 (and2 (and2 (and2 (and2 (and2 (and2 (and2 (and2 (and2 (and2 (and2 (and2 (and2 (and2 (and2 (and2 (and2 (and2 (and2 (and2 (and2 (and2 (and2 (and2 (and2 (and2 (and2 (and2 (and2 q0 fac_laid) fac_mapsRowed) q3) q4) q5) fac_stops) q7) fac_stopKnobs) q9) q10) q11) q12) q13) q14) q15) q16) q17) q18) q19) q20) q21) q22) q23) fac_stopsHeard) fac_mayEnter) q26) q27) q28) q29) q30) q31)
theorem named : Tryd.prog.funcNamed Rows.fnExactDecodeRatRow.func = some 3 := by kernel_rfl
theorem inst : Tryd.f3.isInstance Tryd.prog Rows.fnExactDecodeRatRow.origin Rows.fnExactDecodeRatRow.targs := of_decide_eq_true (by kernel_rfl)
theorem wrap : Tryd.f3.isWrapper Tryd.prog Rows.fnExactDecodeRatRow.wrapper Rows.fnExactDecodeRatRow.mainSum := by unfold Func.isWrapper; first | (rw [if_pos (by decide +kernel)]; kernel_rfl) | (rw [if_neg (by decide +kernel)]; exact ⟨rfl, rfl⟩)
set_option maxRecDepth 100000 in
theorem over : Rows.fnExactDecodeRatRow.holds Tryd.pinned (OpenSpec.ofChange Rows.fnExactDecodeRatSpec) :=
  OpenClaim.holds_of_wide 3 Tryd.f3 rfl rfl rfl rfl rfl rfl rfl ⟨rfl, rfl, rfl, rfl, rfl⟩ rfl rfl rfl rfl rfl named Tryd.func3 closed inst wrap
    (fun os started H enc _ => lifted os started H enc)

/-- The statement: the row's card. -/
theorem proved : Rows.FnExactDecodeRatCardSaid :=
  Claim7.holds_tied_plain_at .later [] [.data, .data, .data, .sentinel, .sentinel] true (true, "9733c8b7c16d9077ac4669d814512fe11f487f88693e9f6319b31c8ca7718b2b") true
    over (fun _ h => by cases h) (by kernel_rfl) (fun _ h => by cases h) fnExactDecodeRat_row_tie rfl ⟨rfl, rfl⟩ (by kernel_rfl) rfl
    (fun f fn hf hfn => by
      obtain rfl : f = 3 := Option.some.inj ((named).symm.trans hf) |>.symm
      obtain rfl : fn = Tryd.f3 := (Option.some.inj (Tryd.func3.symm.trans hfn)).symm
      exact ⟨by kernel_rfl, fun j t ht => by
        rw [Tryd.params3] at ht
        have h3 : t = 9 := by
          rcases j with _ | j
          · simpa using ht.symm
          · simp at ht
        subst h3
        exact (show Tryd.prog.wantsStandIn 9 = false by kernel_rfl)⟩)
    (by kernel_rfl)
end Go.Proofs.YtggigfogckeamaaDoor.fnExactDecodeRat
