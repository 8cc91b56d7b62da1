/- The given card on FnRatCanonical: the row (for every input it returns true, and the input reads as before, where the listed variables read as the program's text lays them) and its tie. The walk is c_laws_FnRatCanonical; this is the frame around it. There are no further conditions. -/
import Derived.Test.YtggigfogckeamaaDoorRows
import Derived.Test.YtggigfogckeamaaDoorCards
import Derived.Test.YtggigfogckeamaaDoorTie
import Derived.WalkKit
import Derived.ProofKit
import Derived.OpenShut
import Derived.ShutString
import Derived.ChangeOld
import Derived.Below
import Derived.SevenTiedAt
import Derived.Test.YtggigfogckeamaaDoorRK
import Derived.Test.YtggigfogckeamaaDoorRI
import Derived.Test.YtggigfogckeamaaDoorCb
import Derived.Test.YtggigfogckeamaaDoorFac
namespace Go.Proofs.YtggigfogckeamaaDoor.fnRatCanonical
open Go Go.ChangeShapes Go.WideShapes Go.ChangeAt Go.RowKit Go.Ideal Go.Pl
open Go.ChangeMaps (open_string shut_string)
set_option linter.unusedVariables false
set_option linter.unusedSimpArgs false


theorem walk (a0 : Option Addr) (len0 cap0 : Nat) (z0 : List Int) (w : World) (w0 : IsRow .u8 w a0 len0 cap0 z0) (hw : LaidW w) :
    Calls Tryd.prog 5 #[.slice a0 len0 cap0] w fun e w' => e = .returned (.bool true) ∧ Below w.heap.size w w' := by
  refine calls_of_icallW (c_laws_FnRatCanonical (z0.take len0) (row_bytes w0)) hw ?_
  simp only [RepL]
  exact ⟨_, _, rfl, isRow_rep w0, rfl⟩

set_option maxRecDepth 100000 in
theorem lifted (os : Os) (started : os.Started) (H : Type) (enc : TypeId × Value → H) :
    ReturnsInHanded {} Tryd.checked os 5 .any (fun w args => (Rows.fnRatCanonicalSpec.pre enc Tryd.prog Tryd.f5 Rows.fnRatCanonicalRow.domain false w args ∧ laidMet Tryd.prog Rows.fnRatCanonicalRow.laid w) ∧ sizedMet enc Tryd.prog Tryd.f5 (OpenSpec.ofChange Rows.fnRatCanonicalSpec) false w args) (Rows.fnRatCanonicalSpec.post enc Tryd.prog Tryd.f5 false true false false) := by
  refine returns_laid (C := Tryd.checked) (X := fun w _ => laidMet Tryd.prog Rows.fnRatCanonicalRow.laid w) (fun _ _ _ hh h => h.of_heap hh) own started (by kernel_rfl) Tryd.func5
    (ChangeSpec.witness_at (enc := enc) (C := Tryd.checked) (os := os) (X := fun w _ => laidMet Tryd.prog Rows.fnRatCanonicalRow.laid w) false (World.laidAll Tryd.prog os L5) #[.slice none 0 0] 8 (World.laidAll_os _ _ _) (by kernel_rfl) (by kernel_rfl) (by kernel_rfl) (by kernel_rfl) (by kernel_rfl) (laid_met os _)) ?_
  intro W base args ds gs before hval0 hW hsz0 hL hsh
  have hval : ∀ (j : Nat) t v, Tryd.f5.params[j]? = some t → args[j]? = some v → Value.okWide Tryd.prog W .any base t v := hval0
  have hsz : (DataW.weightsEach Tryd.prog (Tryd.f5.params.toList ++ Rows.fnRatCanonicalSpec.plain.varTypes Tryd.prog) (ds ++ gs)).all (· ≤ reachBytes) = true := hsz0
  clear hsz0
  have hW' := hW
  obtain ⟨p, q, hA0, hV, rfl, hfz, hnd⟩ := hW
  have hA : DataW.TrodAll enc Tryd.prog W 0 (fun _ => true) true Tryd.f5.params.toList args.toList ds p := hA0
  rw [Tryd.params5] at hA hval hsz
  obtain ⟨v0, vs0, d0, ds0, p0, q0, hargs, rfl, rfl, h0, r0⟩ := trodAll_cons hA
  obtain ⟨rfl, rfl, rfl⟩ := trodAll_nil r0
  obtain rfl : args = #[v0] := by cases args; simp_all
  obtain ⟨rfl, rfl⟩ := trodVars_none hV
  have hlw : LaidW W := laidW_of hL hsh
  have k0 := h0
  have lt0 : ∀ x ∈ p0, x.block < W.heap.size := by obtain ⟨m, hm⟩ := k0; exact DataW.trod_lt m _ _ _ hm

  obtain ⟨a0, len0, cap0, rfl⟩ := okWide_slice Tryd.underlying28 (hval 0 28 v0 rfl rfl)
  obtain ⟨z0, w0⟩ : ∃ zs, IsRow .u8 W a0 len0 cap0 zs := by
    obtain ⟨fuel, hf⟩ := h0
    rcases open_ints Tryd.underlying28 Tryd.underlying5 (by kernel_rfl) hf with ⟨hcs, _⟩ | ⟨x, l, c, zs, hcs, _, hl, hm, hz, _, hcell, hwz⟩
    · simp [Value.cells] at hcs
      obtain ⟨rfl, rfl, rfl⟩ := hcs
      exact ⟨[], .inl ⟨rfl, rfl, rfl, rfl⟩⟩
    · simp [Value.cells] at hcs
      obtain ⟨rfl, rfl, rfl⟩ := hcs
      exact ⟨zs, .inr ⟨_, rfl, hl, hm, by simpa using hz, hcell, hwz⟩⟩
  clear hA0 hval0
  refine (walk a0 len0 cap0 z0 W w0 hlw).mono fun e W' ⟨he, bel⟩ => ?_
  subst he
  exact ⟨_, rfl, _, _, _, [], _, [], hW', trodAll_mk1 (shut_bool Tryd.underlying4 _), (trodAll_cons_mk (Below.trod fac_laid (by kernel_rfl) (of_decide_eq_true (by kernel_rfl)) k0 bel lt0) trodAll_mk0), rfl, bel.frame _, fun h => by cases h⟩

theorem q0 : (Rows.fnRatCanonicalRow.wf (OpenSpec.ofChange Rows.fnRatCanonicalSpec)) = true := by kernel_rfl
theorem q3 : (Tryd.f5.params.all (Tryd.prog.readableRec ·)) = true := by kernel_rfl
theorem q4 : (namedTie Tryd.prog Rows.fnRatCanonicalRow.named Rows.fnRatCanonicalSpec.vars) = true := by kernel_rfl
theorem q5 : (Rows.fnRatCanonicalRow.stops == []) = true := by kernel_rfl
theorem q7 : (Rows.fnRatCanonicalRow.knobs == []) = true := by kernel_rfl
theorem q9 : (Rows.fnRatCanonicalRow.inPlace == Tryd.prog.inPlace 5) = true := by kernel_rfl
theorem q10 : (Rows.fnRatCanonicalRow.unfollowed == Tryd.prog.unfollowed 5) = true := by kernel_rfl
theorem q11 : (Rows.fnRatCanonicalRow.recurses == Tryd.prog.recurses 5) = true := by kernel_rfl
theorem q12 : (Rows.fnRatCanonicalRow.named == Tryd.prog.varsNamed 5) = true := by kernel_rfl
theorem q13 : (Rows.fnRatCanonicalRow.maps == (Tryd.f5.params.toList ++ Rows.fnRatCanonicalSpec.plain.varTypes Tryd.prog).any (Tryd.prog.mapsRec ·)) = true := by kernel_rfl
theorem q14 : (Rows.fnRatCanonicalRow.ifaces == (Tryd.f5.params.toList ++ Rows.fnRatCanonicalSpec.plain.varTypes Tryd.prog).any (Tryd.prog.ifacesRec ·)) = true := by kernel_rfl
theorem q15 : (Rows.fnRatCanonicalRow.mapsOut == Tryd.prog.mapsAmong Tryd.f5.resultTypes.toList) = true := by kernel_rfl
theorem q16 : (Rows.fnRatCanonicalRow.loops == (Tryd.f5.params.toList ++ Rows.fnRatCanonicalSpec.plain.varTypes Tryd.prog).any (Tryd.prog.loopsFrom ·)) = true := by kernel_rfl
theorem q17 : (Rows.fnRatCanonicalRow.wideKeys == (Tryd.f5.params.toList ++ Rows.fnRatCanonicalSpec.plain.varTypes Tryd.prog ++ Tryd.f5.resultTypes.toList).any (Tryd.prog.wideKeysFrom ·)) = true := by kernel_rfl
theorem q18 : (Rows.fnRatCanonicalSpec.vars.all (Tryd.prog.varReadable ·)) = true := by kernel_rfl
theorem q19 : (Tryd.f5.resultTypes.all (fun t => Tryd.prog.readableRec t && decide (t < Tryd.prog.types.size))) = true := by kernel_rfl
theorem q20 : (Rows.fnRatCanonicalRow.ifacesOut == Tryd.f5.resultTypes.toList.any (Tryd.prog.ifacesRec ·)) = true := by kernel_rfl
theorem q21 : (Rows.fnRatCanonicalRow.loopsOut == Tryd.f5.resultTypes.toList.any (Tryd.prog.loopsFrom ·)) = true := by kernel_rfl
theorem q22 : (Rows.fnRatCanonicalRow.plainKeys == Tryd.prog.plainKeys) = true := by kernel_rfl
theorem q23 : Rows.fnRatCanonicalRow.shortTexts.isNone = true := by kernel_rfl
theorem q26 : (Rows.fnRatCanonicalRow.lifted == Tryd.prog.liftsFinal) = true := by kernel_rfl
theorem q27 : (Tryd.prog.make == some Rows.fnRatCanonicalRow.make) = true := by kernel_rfl
theorem q28 : (Rows.fnRatCanonicalRow.kinds == (if Rows.fnRatCanonicalRow.domain.isEmpty then [] else Tryd.f5.params.toList.map fun t => match Tryd.prog.underlying t with | some (.int k) => some k | _ => none)) = true := by kernel_rfl
theorem q29 : (Rows.fnRatCanonicalRow.pinned == Rows.fnRatCanonicalRow.pinnedBy) = true := by kernel_rfl
theorem q30 : (Rows.fnRatCanonicalRow.veiled == (Tryd.f5.params.toList ++ Rows.fnRatCanonicalSpec.plain.varTypes Tryd.prog ++ Tryd.f5.resultTypes.toList).any (Tryd.prog.veiledRec ·)) = true := by kernel_rfl
theorem q31 : (Rows.fnRatCanonicalRow.veiledFits Tryd.prog Tryd.f5.params.toList (Tryd.f5.params.toList ++ Rows.fnRatCanonicalSpec.plain.varTypes Tryd.prog ++ Tryd.f5.resultTypes.toList)) = true := by kernel_rfl
set_option maxRecDepth 100000 in
theorem closed : joinedFacts Tryd.prog 5 Tryd.f5 Rows.fnRatCanonicalSpec Rows.fnRatCanonicalRow = true := by
  unfold joinedFacts
  exact (and2 (and2 (and2 (and2 (and2 (and2 (and2 (and2 (and2 (and2 (and2 (and2 (and2 (and2 (and2 (and2 (and2 (and2 (and2 (and2 (and2 (and2 (and2 (and2 (and2 (and2 (and2 (and2 (and2 (and2 (and2 q0 fac_laid) fac_mapsRowed) q3) q4) q5) fac_stops) q7) fac_stopKnobs) q9) q10) q11) q12) q13) q14) q15) q16) q17) q18) q19) q20) q21) q22) q23) fac_stopsHeard) fac_mayEnter) q26) q27) q28) q29) q30) q31)
theorem named : Tryd.prog.funcNamed Rows.fnRatCanonicalRow.func = some 5 := by kernel_rfl
theorem inst : Tryd.f5.isInstance Tryd.prog Rows.fnRatCanonicalRow.origin Rows.fnRatCanonicalRow.targs := of_decide_eq_true (by kernel_rfl)
theorem wrap : Tryd.f5.isWrapper Tryd.prog Rows.fnRatCanonicalRow.wrapper Rows.fnRatCanonicalRow.mainSum := by unfold Func.isWrapper; first | (rw [if_pos (by decide +kernel)]; kernel_rfl) | (rw [if_neg (by decide +kernel)]; exact ⟨rfl, rfl⟩)
set_option maxRecDepth 100000 in
theorem over : Rows.fnRatCanonicalRow.holds Tryd.pinned (OpenSpec.ofChange Rows.fnRatCanonicalSpec) :=
  OpenClaim.holds_of_wide 5 Tryd.f5 rfl rfl rfl rfl rfl rfl rfl ⟨rfl, rfl, rfl, rfl, rfl⟩ rfl rfl rfl rfl rfl named Tryd.func5 closed inst wrap
    (fun os started H enc _ => lifted os started H enc)

/-- The statement: the row's card. -/
theorem proved : Rows.FnRatCanonicalCardSaid :=
  Claim7.holds_tied_plain_at .later [] [.data, .data, .data, .sentinel, .sentinel] true (true, "9733c8b7c16d9077ac4669d814512fe11f487f88693e9f6319b31c8ca7718b2b") true
    over (fun _ h => by cases h) (by kernel_rfl) (fun _ h => by cases h) fnRatCanonical_row_tie rfl ⟨rfl, rfl⟩ (by kernel_rfl) rfl
    (fun f fn hf hfn => by
      obtain rfl : f = 5 := Option.some.inj ((named).symm.trans hf) |>.symm
      obtain rfl : fn = Tryd.f5 := (Option.some.inj (Tryd.func5.symm.trans hfn)).symm
      exact ⟨by kernel_rfl, fun j t ht => by
        rw [Tryd.params5] at ht
        have h3 : t = 28 := by
          rcases j with _ | j
          · simpa using ht.symm
          · simp at ht
        subst h3
        exact (show Tryd.prog.wantsStandIn 28 = false by kernel_rfl)⟩)
    (by kernel_rfl)
end Go.Proofs.YtggigfogckeamaaDoor.fnRatCanonical
