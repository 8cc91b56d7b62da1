/- The given statement on FnExactIsRedundant: for every input it returns true, and the input reads as before. The walk is c_laws_FnExactIsRedundant; this is the frame around it. There are no further conditions. -/
import Derived.Test.YtlgjhojihgmfhaaRows
import Derived.WalkKit
import Derived.ProofKit
import Derived.OpenShut
import Derived.ShutString
import Derived.ChangeOld
import Derived.Below
import Derived.Test.YtlgjhojihgmfhaaB33
import Derived.Test.YtlgjhojihgmfhaaCb
import Derived.Test.YtlgjhojihgmfhaaBW
import Derived.Test.YtlgjhojihgmfhaaFac
namespace Go.Proofs.Ytlgjhojihgmfhaa.fnExactIsRedundant
open Go Go.ChangeShapes Go.WideShapes Go.ChangeAt Go.RowKit Go.Ideal Go.Pl
set_option linter.unusedVariables false
set_option linter.unusedSimpArgs false


theorem walk (a0 : Option Addr) (len0 cap0 : Nat) (l0 : List Tr) (x1 : Int) (w : World) (w0 : RepV (bare (fun _ => False) w) (.sl 3 (encTs l0)) (.slice a0 len0 cap0)) :
    Calls Try.prog 5 #[.slice a0 len0 cap0, .int .i64 x1] w fun e w' => e = .returned (.bool true) ∧ Below w.heap.size w w' := by
  refine calls_of_icall (c_laws_FnExactIsRedundant l0 x1 ) ?_
  simp only [RepL]
  exact ⟨_, _, rfl, w0, _, _, rfl, rfl, rfl⟩

set_option maxRecDepth 100000 in
theorem lifted (os : Os) (started : os.Started) (H : Type) (enc : TypeId × Value → H) :
    ReturnsInHanded {} Try.checked os 5 .any (Rows.fnExactIsRedundantSpec.pre6 enc Try.prog Try.f5 Rows.fnExactIsRedundantRow.domain false) (Rows.fnExactIsRedundantSpec.post enc Try.prog Try.f5 false true false false) := by
  refine returnsInHanded_of_change (C := Try.checked) own started (by kernel_rfl) Try.func5
    (ChangeSpec.witness6 (enc := enc) (C := Try.checked) false ⟨#[], #[.slice none 0 0, .int .i64 0], []⟩ 8 (by kernel_rfl) (by kernel_rfl) (by kernel_rfl) (by kernel_rfl)) ?_
  intro W base args ds gs before hval0 hW hcnd _
  have hval : ∀ (j : Nat) t v, Try.f5.params[j]? = some t → args[j]? = some v → Value.okWide Try.prog W .any base t v := hval0
  have hW' := hW
  obtain ⟨p, q, hA0, hV, rfl, hfz, hnd⟩ := hW
  have hA : DataW.TrodAll enc Try.prog W 0 (fun _ => true) true Try.f5.params.toList args.toList ds p := hA0
  rw [Try.params5] at hA hval
  obtain ⟨v0, vs0, d0, ds0, p0, q0, hargs, rfl, rfl, h0, r0⟩ := trodAll_cons hA
  obtain ⟨v1, vs1, d1, ds1, p1, q1, rfl, rfl, rfl, h1, r1⟩ := trodAll_cons r0
  obtain ⟨rfl, rfl, rfl⟩ := trodAll_nil r1
  obtain rfl : args = #[v0, v1] := by cases args; simp_all
  obtain ⟨rfl, rfl⟩ := trodVars_none hV
  have k0 := h0
  have lt0 : ∀ x ∈ p0, x.block < W.heap.size := by obtain ⟨m, hm⟩ := k0; exact DataW.trod_lt m _ _ _ hm
  obtain ⟨a0, len0, cap0, rfl⟩ := okWide_slice Try.underlying44 (hval 0 44 v0 rfl rfl)
  obtain ⟨l0, w0⟩ : ∃ l : List Tr, RepV (bare (fun _ => False) W) (.sl 3 (encTs l)) (.slice a0 len0 cap0) := by
    obtain ⟨fuel, hf⟩ := h0
    exact rep_Ts (fuel := fuel) Try.underlying44 (Flat.three Try.underlying108 (by kernel_rfl) rfl rfl rfl (by kernel_rfl) (by kernel_rfl) (by kernel_rfl) (Flat.int Try.underlying3) (Flat.int Try.underlying3) (Flat.int Try.underlying3)) (by kernel_rfl) (by simpa [Value.cells] using hf)
  have k1 := h1
  have lt1 : ∀ x ∈ p1, x.block < W.heap.size := by obtain ⟨m, hm⟩ := k1; exact DataW.trod_lt m _ _ _ hm
  obtain ⟨x1, rfl, rfl, rfl, wx1⟩ := open_int Try.underlying3 (hval 1 3 v1 rfl rfl) h1
  clear hA0 hval0
  refine (walk a0 len0 cap0 l0 x1 W w0).mono fun e W' ⟨he, bel⟩ => ?_
  subst he
  exact ⟨_, rfl, _, _, _, [], _, [], hW', trodAll_mk1 (shut_bool Try.underlying4 _), (trodAll_cons_mk (Below.trod fac_laid (by kernel_rfl) (of_decide_eq_true (by kernel_rfl)) k0 bel lt0) (trodAll_cons_mk (Below.trod fac_laid (by kernel_rfl) (of_decide_eq_true (by kernel_rfl)) k1 bel lt1) trodAll_mk0)), rfl, bel.frame _, fun h => by cases h⟩

theorem q0 : (Rows.fnExactIsRedundantRow.wf (OpenSpec.ofChange Rows.fnExactIsRedundantSpec)) = true := by kernel_rfl
theorem q3 : (Try.f5.params.all (Try.prog.readableRec ·)) = true := by kernel_rfl
theorem q4 : (namedTie Try.prog Rows.fnExactIsRedundantRow.named Rows.fnExactIsRedundantSpec.vars) = true := by kernel_rfl
theorem q5 : (Rows.fnExactIsRedundantRow.stops == []) = true := by kernel_rfl
theorem q7 : (Rows.fnExactIsRedundantRow.knobs == []) = true := by kernel_rfl
theorem q9 : (Rows.fnExactIsRedundantRow.inPlace == Try.prog.inPlace 5) = true := by kernel_rfl
theorem q10 : (Rows.fnExactIsRedundantRow.unfollowed == Try.prog.unfollowed 5) = true := by kernel_rfl
theorem q11 : (Rows.fnExactIsRedundantRow.recurses == Try.prog.recurses 5) = true := by kernel_rfl
theorem q12 : (Rows.fnExactIsRedundantRow.named == Try.prog.varsNamed 5) = true := by kernel_rfl
theorem q13 : (Rows.fnExactIsRedundantRow.maps == (Try.f5.params.toList ++ Rows.fnExactIsRedundantSpec.plain.varTypes Try.prog).any (Try.prog.mapsRec ·)) = true := by kernel_rfl
theorem q14 : (Rows.fnExactIsRedundantRow.ifaces == (Try.f5.params.toList ++ Rows.fnExactIsRedundantSpec.plain.varTypes Try.prog).any (Try.prog.ifacesRec ·)) = true := by kernel_rfl
theorem q15 : (Rows.fnExactIsRedundantRow.mapsOut == Try.prog.mapsAmong Try.f5.resultTypes.toList) = true := by kernel_rfl
theorem q16 : (Rows.fnExactIsRedundantRow.loops == (Try.f5.params.toList ++ Rows.fnExactIsRedundantSpec.plain.varTypes Try.prog).any (Try.prog.loopsFrom ·)) = true := by kernel_rfl
theorem q17 : (Rows.fnExactIsRedundantRow.wideKeys == (Try.f5.params.toList ++ Rows.fnExactIsRedundantSpec.plain.varTypes Try.prog ++ Try.f5.resultTypes.toList).any (Try.prog.wideKeysFrom ·)) = true := by kernel_rfl
theorem q18 : (Rows.fnExactIsRedundantSpec.vars.all (Try.prog.varReadable ·)) = true := by kernel_rfl
theorem q19 : (Try.f5.resultTypes.all (fun t => Try.prog.readableRec t && decide (t < Try.prog.types.size))) = true := by kernel_rfl
theorem q20 : (Rows.fnExactIsRedundantRow.ifacesOut == Try.f5.resultTypes.toList.any (Try.prog.ifacesRec ·)) = true := by kernel_rfl
theorem q21 : (Rows.fnExactIsRedundantRow.loopsOut == Try.f5.resultTypes.toList.any (Try.prog.loopsFrom ·)) = true := by kernel_rfl
theorem q22 : (Rows.fnExactIsRedundantRow.plainKeys == Try.prog.plainKeys) = true := by kernel_rfl
theorem q23 : Rows.fnExactIsRedundantRow.shortTexts.isNone = true := by kernel_rfl
theorem q26 : (Rows.fnExactIsRedundantRow.lifted == Try.prog.liftsFinal) = true := by kernel_rfl
theorem q27 : (Try.prog.make == some Rows.fnExactIsRedundantRow.make) = true := by kernel_rfl
theorem q28 : (Rows.fnExactIsRedundantRow.kinds == (if Rows.fnExactIsRedundantRow.domain.isEmpty then [] else Try.f5.params.toList.map fun t => match Try.prog.underlying t with | some (.int k) => some k | _ => none)) = true := by kernel_rfl
theorem q29 : (Rows.fnExactIsRedundantRow.pinned == Rows.fnExactIsRedundantRow.pinnedBy) = true := by kernel_rfl
theorem q30 : (Rows.fnExactIsRedundantRow.veiled == (Try.f5.params.toList ++ Rows.fnExactIsRedundantSpec.plain.varTypes Try.prog ++ Try.f5.resultTypes.toList).any (Try.prog.veiledRec ·)) = true := by kernel_rfl
theorem q31 : (Rows.fnExactIsRedundantRow.veiledFits Try.prog Try.f5.params.toList (Try.f5.params.toList ++ Rows.fnExactIsRedundantSpec.plain.varTypes Try.prog ++ Try.f5.resultTypes.toList)) = true := by kernel_rfl
set_option maxRecDepth 100000 in
theorem closed : joinedFacts Try.prog 5 Try.f5 Rows.fnExactIsRedundantSpec Rows.fnExactIsRedundantRow = true := by
  unfold joinedFacts
  exact (and2 (and2 (and2 (and2 (and2 (and2 (and2 (and2 (and2 (and2 (and2 (and2 (and2 (and2 (and2 (and2 (and2 (and2 (and2 (and2 (and2 (and2 (and2 (and2 (and2 (and2 (and2 (and2 (and2 (and2 (and2 q0 fac_laid) fac_mapsRowed) q3) q4) q5) fac_stops) q7) fac_stopKnobs) q9) q10) q11) q12) q13) q14) q15) q16) q17) q18) q19) q20) q21) q22) q23) fac_stopsHeard) fac_mayEnter) q26) q27) q28) q29) q30) q31)
theorem named : Try.prog.funcNamed Rows.fnExactIsRedundantRow.func = some 5 := by kernel_rfl
theorem inst : Try.f5.isInstance Try.prog Rows.fnExactIsRedundantRow.origin Rows.fnExactIsRedundantRow.targs := of_decide_eq_true (by kernel_rfl)
theorem wrap : Try.f5.isWrapper Try.prog Rows.fnExactIsRedundantRow.wrapper Rows.fnExactIsRedundantRow.mainSum := by unfold Func.isWrapper; first | (rw [if_pos (by decide +kernel)]; kernel_rfl) | (rw [if_neg (by decide +kernel)]; exact ⟨rfl, rfl⟩)
set_option maxRecDepth 100000 in
theorem over : Rows.fnExactIsRedundantRow.holds Try.pinned (OpenSpec.ofChange Rows.fnExactIsRedundantSpec) :=
  OpenClaim.holds_of_wide 5 Try.f5 rfl rfl rfl rfl rfl rfl rfl ⟨rfl, rfl, rfl, rfl, rfl⟩ rfl rfl rfl rfl rfl named Try.func5 closed inst wrap
    (fun os started H enc _ => lifted os started H enc)

/-- The statement. -/
theorem proved : Rows.FnExactIsRedundantSaid := over
end Go.Proofs.Ytlgjhojihgmfhaa.fnExactIsRedundant
