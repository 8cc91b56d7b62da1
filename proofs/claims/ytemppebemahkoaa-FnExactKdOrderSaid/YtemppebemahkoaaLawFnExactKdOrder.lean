/- The given statement on FnExactKdOrder: for every input it returns true, and the input reads as before. The walk is c_laws_FnExactKdOrder; this is the frame around it. There are no further conditions. -/
import Derived.Test.YtemppebemahkoaaRows
import Derived.WalkKit
import Derived.ProofKit
import Derived.OpenShut
import Derived.ShutString
import Derived.ChangeOld
import Derived.Below
import Derived.Test.YtemppebemahkoaaB57
import Derived.Test.YtemppebemahkoaaCb
import Derived.Test.YtemppebemahkoaaBW
import Derived.Test.YtemppebemahkoaaFac
namespace Go.Proofs.Ytemppebemahkoaa.fnExactKdOrder
open Go Go.ChangeShapes Go.WideShapes Go.ChangeAt Go.RowKit Go.Ideal Go.Pl
set_option linter.unusedVariables false
set_option linter.unusedSimpArgs false


theorem walk (a0 : Option Addr) (len0 cap0 : Nat) (l0 : List Pt) (w : World) (w0 : RepV (bare (fun _ => False) w) (.sl 2 (encPs l0)) (.slice a0 len0 cap0)) :
    Calls Try.prog 4 #[.slice a0 len0 cap0] w fun e w' => e = .returned (.bool true) ∧ Below w.heap.size w w' := by
  refine calls_of_icall (c_laws_FnExactKdOrder l0 ) ?_
  simp only [RepL]
  exact ⟨_, _, rfl, w0, rfl⟩

set_option maxRecDepth 100000 in
theorem lifted (os : Os) (started : os.Started) (H : Type) (enc : TypeId × Value → H) :
    ReturnsInHanded {} Try.checked os 4 .any (Rows.fnExactKdOrderSpec.pre6 enc Try.prog Try.f4 Rows.fnExactKdOrderRow.domain false) (Rows.fnExactKdOrderSpec.post enc Try.prog Try.f4 false true false false) := by
  refine returnsInHanded_of_change (C := Try.checked) own started (by kernel_rfl) Try.func4
    (ChangeSpec.witness6 (enc := enc) (C := Try.checked) false ⟨#[], #[.slice none 0 0], []⟩ 8 (by kernel_rfl) (by kernel_rfl) (by kernel_rfl) (by kernel_rfl)) ?_
  intro W base args ds gs before hval0 hW hcnd _
  have hval : ∀ (j : Nat) t v, Try.f4.params[j]? = some t → args[j]? = some v → Value.okWide Try.prog W .any base t v := hval0
  have hW' := hW
  obtain ⟨p, q, hA0, hV, rfl, hfz, hnd⟩ := hW
  have hA : DataW.TrodAll enc Try.prog W 0 (fun _ => true) true Try.f4.params.toList args.toList ds p := hA0
  rw [Try.params4] at hA hval
  obtain ⟨v0, vs0, d0, ds0, p0, q0, hargs, rfl, rfl, h0, r0⟩ := trodAll_cons hA
  obtain ⟨rfl, rfl, rfl⟩ := trodAll_nil r0
  obtain rfl : args = #[v0] := by cases args; simp_all
  obtain ⟨rfl, rfl⟩ := trodVars_none hV
  have k0 := h0
  have lt0 : ∀ x ∈ p0, x.block < W.heap.size := by obtain ⟨m, hm⟩ := k0; exact DataW.trod_lt m _ _ _ hm
  obtain ⟨a0, len0, cap0, rfl⟩ := okWide_slice Try.underlying32 (hval 0 32 v0 rfl rfl)
  obtain ⟨l0, w0⟩ : ∃ l : List Pt, RepV (bare (fun _ => False) W) (.sl 2 (encPs l)) (.slice a0 len0 cap0) := by
    obtain ⟨fuel, hf⟩ := h0
    exact rep_Ps (fuel := fuel) Try.underlying32 (Flat.two Try.underlying92 (by kernel_rfl) rfl rfl (by kernel_rfl) (by kernel_rfl) (Flat.int Try.underlying3) (Flat.int Try.underlying3)) (by kernel_rfl) (by simpa [Value.cells] using hf)
  clear hA0 hval0
  refine (walk a0 len0 cap0 l0 W w0).mono fun e W' ⟨he, bel⟩ => ?_
  subst he
  exact ⟨_, rfl, _, _, _, [], _, [], hW', trodAll_mk1 (shut_bool Try.underlying4 _), (trodAll_cons_mk (Below.trod fac_laid (by kernel_rfl) (of_decide_eq_true (by kernel_rfl)) k0 bel lt0) trodAll_mk0), rfl, bel.frame _, fun h => by cases h⟩

theorem q0 : (Rows.fnExactKdOrderRow.wf (OpenSpec.ofChange Rows.fnExactKdOrderSpec)) = true := by kernel_rfl
theorem q3 : (Try.f4.params.all (Try.prog.readableRec ·)) = true := by kernel_rfl
theorem q4 : (namedTie Try.prog Rows.fnExactKdOrderRow.named Rows.fnExactKdOrderSpec.vars) = true := by kernel_rfl
theorem q5 : (Rows.fnExactKdOrderRow.stops == []) = true := by kernel_rfl
theorem q7 : (Rows.fnExactKdOrderRow.knobs == []) = true := by kernel_rfl
theorem q9 : (Rows.fnExactKdOrderRow.inPlace == Try.prog.inPlace 4) = true := by kernel_rfl
theorem q10 : (Rows.fnExactKdOrderRow.unfollowed == Try.prog.unfollowed 4) = true := by kernel_rfl
theorem q11 : (Rows.fnExactKdOrderRow.recurses == Try.prog.recurses 4) = true := by kernel_rfl
theorem q12 : (Rows.fnExactKdOrderRow.named == Try.prog.varsNamed 4) = true := by kernel_rfl
theorem q13 : (Rows.fnExactKdOrderRow.maps == (Try.f4.params.toList ++ Rows.fnExactKdOrderSpec.plain.varTypes Try.prog).any (Try.prog.mapsRec ·)) = true := by kernel_rfl
theorem q14 : (Rows.fnExactKdOrderRow.ifaces == (Try.f4.params.toList ++ Rows.fnExactKdOrderSpec.plain.varTypes Try.prog).any (Try.prog.ifacesRec ·)) = true := by kernel_rfl
theorem q15 : (Rows.fnExactKdOrderRow.mapsOut == Try.prog.mapsAmong Try.f4.resultTypes.toList) = true := by kernel_rfl
theorem q16 : (Rows.fnExactKdOrderRow.loops == (Try.f4.params.toList ++ Rows.fnExactKdOrderSpec.plain.varTypes Try.prog).any (Try.prog.loopsFrom ·)) = true := by kernel_rfl
theorem q17 : (Rows.fnExactKdOrderRow.wideKeys == (Try.f4.params.toList ++ Rows.fnExactKdOrderSpec.plain.varTypes Try.prog ++ Try.f4.resultTypes.toList).any (Try.prog.wideKeysFrom ·)) = true := by kernel_rfl
theorem q18 : (Rows.fnExactKdOrderSpec.vars.all (Try.prog.varReadable ·)) = true := by kernel_rfl
theorem q19 : (Try.f4.resultTypes.all (fun t => Try.prog.readableRec t && decide (t < Try.prog.types.size))) = true := by kernel_rfl
theorem q20 : (Rows.fnExactKdOrderRow.ifacesOut == Try.f4.resultTypes.toList.any (Try.prog.ifacesRec ·)) = true := by kernel_rfl
theorem q21 : (Rows.fnExactKdOrderRow.loopsOut == Try.f4.resultTypes.toList.any (Try.prog.loopsFrom ·)) = true := by kernel_rfl
theorem q22 : (Rows.fnExactKdOrderRow.plainKeys == Try.prog.plainKeys) = true := by kernel_rfl
theorem q23 : Rows.fnExactKdOrderRow.shortTexts.isNone = true := by kernel_rfl
theorem q26 : (Rows.fnExactKdOrderRow.lifted == Try.prog.liftsFinal) = true := by kernel_rfl
theorem q27 : (Try.prog.make == some Rows.fnExactKdOrderRow.make) = true := by kernel_rfl
theorem q28 : (Rows.fnExactKdOrderRow.kinds == (if Rows.fnExactKdOrderRow.domain.isEmpty then [] else Try.f4.params.toList.map fun t => match Try.prog.underlying t with | some (.int k) => some k | _ => none)) = true := by kernel_rfl
theorem q29 : (Rows.fnExactKdOrderRow.pinned == Rows.fnExactKdOrderRow.pinnedBy) = true := by kernel_rfl
theorem q30 : (Rows.fnExactKdOrderRow.veiled == (Try.f4.params.toList ++ Rows.fnExactKdOrderSpec.plain.varTypes Try.prog ++ Try.f4.resultTypes.toList).any (Try.prog.veiledRec ·)) = true := by kernel_rfl
theorem q31 : (Rows.fnExactKdOrderRow.veiledFits Try.prog Try.f4.params.toList (Try.f4.params.toList ++ Rows.fnExactKdOrderSpec.plain.varTypes Try.prog ++ Try.f4.resultTypes.toList)) = true := by kernel_rfl
set_option maxRecDepth 100000 in
theorem closed : joinedFacts Try.prog 4 Try.f4 Rows.fnExactKdOrderSpec Rows.fnExactKdOrderRow = true := by
  unfold joinedFacts
  exact (and2 (and2 (and2 (and2 (and2 (and2 (and2 (and2 (and2 (and2 (and2 (and2 (and2 (and2 (and2 (and2 (and2 (and2 (and2 (and2 (and2 (and2 (and2 (and2 (and2 (and2 (and2 (and2 (and2 (and2 (and2 q0 fac_laid) fac_mapsRowed) q3) q4) q5) fac_stops) q7) fac_stopKnobs) q9) q10) q11) q12) q13) q14) q15) q16) q17) q18) q19) q20) q21) q22) q23) fac_stopsHeard) fac_mayEnter) q26) q27) q28) q29) q30) q31)
theorem named : Try.prog.funcNamed Rows.fnExactKdOrderRow.func = some 4 := by kernel_rfl
theorem inst : Try.f4.isInstance Try.prog Rows.fnExactKdOrderRow.origin Rows.fnExactKdOrderRow.targs := of_decide_eq_true (by kernel_rfl)
theorem wrap : Try.f4.isWrapper Try.prog Rows.fnExactKdOrderRow.wrapper Rows.fnExactKdOrderRow.mainSum := by unfold Func.isWrapper; first | (rw [if_pos (by decide +kernel)]; kernel_rfl) | (rw [if_neg (by decide +kernel)]; exact ⟨rfl, rfl⟩)
set_option maxRecDepth 100000 in
theorem over : Rows.fnExactKdOrderRow.holds Try.pinned (OpenSpec.ofChange Rows.fnExactKdOrderSpec) :=
  OpenClaim.holds_of_wide 4 Try.f4 rfl rfl rfl rfl rfl rfl rfl ⟨rfl, rfl, rfl, rfl, rfl⟩ rfl rfl rfl rfl rfl named Try.func4 closed inst wrap
    (fun os started H enc _ => lifted os started H enc)

/-- The statement. -/
theorem proved : Rows.FnExactKdOrderSaid := over
end Go.Proofs.Ytemppebemahkoaa.fnExactKdOrder
