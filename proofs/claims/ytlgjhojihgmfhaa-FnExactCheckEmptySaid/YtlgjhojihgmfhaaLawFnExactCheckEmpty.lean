/- The given statement on FnExactCheckEmpty: for every input it returns true, and the input reads as before. The walk is c_laws_FnExactCheckEmpty; this is the frame around it. There are no further conditions. -/
import Derived.Test.YtlgjhojihgmfhaaRows
import Derived.WalkKit
import Derived.ProofKit
import Derived.OpenShut
import Derived.ShutString
import Derived.ChangeOld
import Derived.Below
import Derived.Test.YtlgjhojihgmfhaaB33
import Derived.Test.YtlgjhojihgmfhaaCb
import Derived.Test.YtlgjhojihgmfhaaBW
import Derived.Test.YtlgjhojihgmfhaaFac
namespace Go.Proofs.Ytlgjhojihgmfhaa.fnExactCheckEmpty
open Go Go.ChangeShapes Go.WideShapes Go.ChangeAt Go.RowKit Go.Ideal Go.Pl
set_option linter.unusedVariables false
set_option linter.unusedSimpArgs false


theorem walk (a0 : Option Addr) (len0 cap0 : Nat) (l0 : List Tr) (a1 : Option Addr) (len1 cap1 : Nat) (l1 : List Int) (w : World) (w0 : RepV (bare (fun _ => False) w) (.sl 3 (encTs l0)) (.slice a0 len0 cap0)) (w1 : RepV (bare (fun _ => False) w) (.sl 1 (encI l1)) (.slice a1 len1 cap1)) :
    Calls Try.prog 8 #[.slice a0 len0 cap0, .slice a1 len1 cap1] w fun e w' => e = .returned (.bool true) ∧ Below w.heap.size w w' := by
  refine calls_of_icall (c_laws_FnExactCheckEmpty l0 l1 ) ?_
  simp only [RepL]
  exact ⟨_, _, rfl, w0, _, _, rfl, w1, rfl⟩

set_option maxRecDepth 100000 in
theorem lifted (os : Os) (started : os.Started) (H : Type) (enc : TypeId × Value → H) :
    ReturnsInHanded {} Try.checked os 8 .any (Rows.fnExactCheckEmptySpec.pre6 enc Try.prog Try.f8 Rows.fnExactCheckEmptyRow.domain false) (Rows.fnExactCheckEmptySpec.post enc Try.prog Try.f8 false true false false) := by
  refine returnsInHanded_of_change (C := Try.checked) own started (by kernel_rfl) Try.func8
    (ChangeSpec.witness6 (enc := enc) (C := Try.checked) false ⟨#[], #[.slice none 0 0, .slice none 0 0], []⟩ 8 (by kernel_rfl) (by kernel_rfl) (by kernel_rfl) (by kernel_rfl)) ?_
  intro W base args ds gs before hval0 hW hcnd _
  have hval : ∀ (j : Nat) t v, Try.f8.params[j]? = some t → args[j]? = some v → Value.okWide Try.prog W .any base t v := hval0
  have hW' := hW
  obtain ⟨p, q, hA0, hV, rfl, hfz, hnd⟩ := hW
  have hA : DataW.TrodAll enc Try.prog W 0 (fun _ => true) true Try.f8.params.toList args.toList ds p := hA0
  rw [Try.params8] at hA hval
  obtain ⟨v0, vs0, d0, ds0, p0, q0, hargs, rfl, rfl, h0, r0⟩ := trodAll_cons hA
  obtain ⟨v1, vs1, d1, ds1, p1, q1, rfl, rfl, rfl, h1, r1⟩ := trodAll_cons r0
  obtain ⟨rfl, rfl, rfl⟩ := trodAll_nil r1
  obtain rfl : args = #[v0, v1] := by cases args; simp_all
  obtain ⟨rfl, rfl⟩ := trodVars_none hV
  have k0 := h0
  have lt0 : ∀ x ∈ p0, x.block < W.heap.size := by obtain ⟨m, hm⟩ := k0; exact DataW.trod_lt m _ _ _ hm
  obtain ⟨a0, len0, cap0, rfl⟩ := okWide_slice Try.underlying44 (hval 0 44 v0 rfl rfl)
  obtain ⟨l0, w0⟩ : ∃ l : List Tr, RepV (bare (fun _ => False) W) (.sl 3 (encTs l)) (.slice a0 len0 cap0) := by
    obtain ⟨fuel, hf⟩ := h0
    exact rep_Ts (fuel := fuel) Try.underlying44 (Flat.three Try.underlying108 (by kernel_rfl) rfl rfl rfl (by kernel_rfl) (by kernel_rfl) (by kernel_rfl) (Flat.int Try.underlying3) (Flat.int Try.underlying3) (Flat.int Try.underlying3)) (by kernel_rfl) (by simpa [Value.cells] using hf)
  have k1 := h1
  have lt1 : ∀ x ∈ p1, x.block < W.heap.size := by obtain ⟨m, hm⟩ := k1; exact DataW.trod_lt m _ _ _ hm
  obtain ⟨a1, len1, cap1, rfl⟩ := okWide_slice Try.underlying62 (hval 1 62 v1 rfl rfl)
  obtain ⟨l1, w1⟩ : ∃ l : List Int, RepV (bare (fun _ => False) W) (.sl 1 (encI l)) (.slice a1 len1 cap1) := by
    obtain ⟨fuel, hf⟩ := h1
    exact rep_Is (fuel := fuel) Try.underlying62 (Flat.int Try.underlying3) (by kernel_rfl) (by simpa [Value.cells] using hf)
  clear hA0 hval0
  refine (walk a0 len0 cap0 l0 a1 len1 cap1 l1 W w0 w1).mono fun e W' ⟨he, bel⟩ => ?_
  subst he
  exact ⟨_, rfl, _, _, _, [], _, [], hW', trodAll_mk1 (shut_bool Try.underlying4 _), (trodAll_cons_mk (Below.trod fac_laid (by kernel_rfl) (of_decide_eq_true (by kernel_rfl)) k0 bel lt0) (trodAll_cons_mk (Below.trod fac_laid (by kernel_rfl) (of_decide_eq_true (by kernel_rfl)) k1 bel lt1) trodAll_mk0)), rfl, bel.frame _, fun h => by cases h⟩

theorem q0 : (Rows.fnExactCheckEmptyRow.wf (OpenSpec.ofChange Rows.fnExactCheckEmptySpec)) = true := by kernel_rfl
theorem q3 : (Try.f8.params.all (Try.prog.readableRec ·)) = true := by kernel_rfl
theorem q4 : (namedTie Try.prog Rows.fnExactCheckEmptyRow.named Rows.fnExactCheckEmptySpec.vars) = true := by kernel_rfl
theorem q5 : (Rows.fnExactCheckEmptyRow.stops == []) = true := by kernel_rfl
theorem q7 : (Rows.fnExactCheckEmptyRow.knobs == []) = true := by kernel_rfl
theorem q9 : (Rows.fnExactCheckEmptyRow.inPlace == Try.prog.inPlace 8) = true := by kernel_rfl
theorem q10 : (Rows.fnExactCheckEmptyRow.unfollowed == Try.prog.unfollowed 8) = true := by kernel_rfl
theorem q11 : (Rows.fnExactCheckEmptyRow.recurses == Try.prog.recurses 8) = true := by kernel_rfl
theorem q12 : (Rows.fnExactCheckEmptyRow.named == Try.prog.varsNamed 8) = true := by kernel_rfl
theorem q13 : (Rows.fnExactCheckEmptyRow.maps == (Try.f8.params.toList ++ Rows.fnExactCheckEmptySpec.plain.varTypes Try.prog).any (Try.prog.mapsRec ·)) = true := by kernel_rfl
theorem q14 : (Rows.fnExactCheckEmptyRow.ifaces == (Try.f8.params.toList ++ Rows.fnExactCheckEmptySpec.plain.varTypes Try.prog).any (Try.prog.ifacesRec ·)) = true := by kernel_rfl
theorem q15 : (Rows.fnExactCheckEmptyRow.mapsOut == Try.prog.mapsAmong Try.f8.resultTypes.toList) = true := by kernel_rfl
theorem q16 : (Rows.fnExactCheckEmptyRow.loops == (Try.f8.params.toList ++ Rows.fnExactCheckEmptySpec.plain.varTypes Try.prog).any (Try.prog.loopsFrom ·)) = true := by kernel_rfl
theorem q17 : (Rows.fnExactCheckEmptyRow.wideKeys == (Try.f8.params.toList ++ Rows.fnExactCheckEmptySpec.plain.varTypes Try.prog ++ Try.f8.resultTypes.toList).any (Try.prog.wideKeysFrom ·)) = true := by kernel_rfl
theorem q18 : (Rows.fnExactCheckEmptySpec.vars.all (Try.prog.varReadable ·)) = true := by kernel_rfl
theorem q19 : (Try.f8.resultTypes.all (fun t => Try.prog.readableRec t && decide (t < Try.prog.types.size))) = true := by kernel_rfl
theorem q20 : (Rows.fnExactCheckEmptyRow.ifacesOut == Try.f8.resultTypes.toList.any (Try.prog.ifacesRec ·)) = true := by kernel_rfl
theorem q21 : (Rows.fnExactCheckEmptyRow.loopsOut == Try.f8.resultTypes.toList.any (Try.prog.loopsFrom ·)) = true := by kernel_rfl
theorem q22 : (Rows.fnExactCheckEmptyRow.plainKeys == Try.prog.plainKeys) = true := by kernel_rfl
theorem q23 : Rows.fnExactCheckEmptyRow.shortTexts.isNone = true := by kernel_rfl
theorem q26 : (Rows.fnExactCheckEmptyRow.lifted == Try.prog.liftsFinal) = true := by kernel_rfl
theorem q27 : (Try.prog.make == some Rows.fnExactCheckEmptyRow.make) = true := by kernel_rfl
theorem q28 : (Rows.fnExactCheckEmptyRow.kinds == (if Rows.fnExactCheckEmptyRow.domain.isEmpty then [] else Try.f8.params.toList.map fun t => match Try.prog.underlying t with | some (.int k) => some k | _ => none)) = true := by kernel_rfl
theorem q29 : (Rows.fnExactCheckEmptyRow.pinned == Rows.fnExactCheckEmptyRow.pinnedBy) = true := by kernel_rfl
theorem q30 : (Rows.fnExactCheckEmptyRow.veiled == (Try.f8.params.toList ++ Rows.fnExactCheckEmptySpec.plain.varTypes Try.prog ++ Try.f8.resultTypes.toList).any (Try.prog.veiledRec ·)) = true := by kernel_rfl
theorem q31 : (Rows.fnExactCheckEmptyRow.veiledFits Try.prog Try.f8.params.toList (Try.f8.params.toList ++ Rows.fnExactCheckEmptySpec.plain.varTypes Try.prog ++ Try.f8.resultTypes.toList)) = true := by kernel_rfl
set_option maxRecDepth 100000 in
theorem closed : joinedFacts Try.prog 8 Try.f8 Rows.fnExactCheckEmptySpec Rows.fnExactCheckEmptyRow = true := by
  unfold joinedFacts
  exact (and2 (and2 (and2 (and2 (and2 (and2 (and2 (and2 (and2 (and2 (and2 (and2 (and2 (and2 (and2 (and2 (and2 (and2 (and2 (and2 (and2 (and2 (and2 (and2 (and2 (and2 (and2 (and2 (and2 (and2 (and2 q0 fac_laid) fac_mapsRowed) q3) q4) q5) fac_stops) q7) fac_stopKnobs) q9) q10) q11) q12) q13) q14) q15) q16) q17) q18) q19) q20) q21) q22) q23) fac_stopsHeard) fac_mayEnter) q26) q27) q28) q29) q30) q31)
theorem named : Try.prog.funcNamed Rows.fnExactCheckEmptyRow.func = some 8 := by kernel_rfl
theorem inst : Try.f8.isInstance Try.prog Rows.fnExactCheckEmptyRow.origin Rows.fnExactCheckEmptyRow.targs := of_decide_eq_true (by kernel_rfl)
theorem wrap : Try.f8.isWrapper Try.prog Rows.fnExactCheckEmptyRow.wrapper Rows.fnExactCheckEmptyRow.mainSum := by unfold Func.isWrapper; first | (rw [if_pos (by decide +kernel)]; kernel_rfl) | (rw [if_neg (by decide +kernel)]; exact ⟨rfl, rfl⟩)
set_option maxRecDepth 100000 in
theorem over : Rows.fnExactCheckEmptyRow.holds Try.pinned (OpenSpec.ofChange Rows.fnExactCheckEmptySpec) :=
  OpenClaim.holds_of_wide 8 Try.f8 rfl rfl rfl rfl rfl rfl rfl ⟨rfl, rfl, rfl, rfl, rfl⟩ rfl rfl rfl rfl rfl named Try.func8 closed inst wrap
    (fun os started H enc _ => lifted os started H enc)

/-- The statement. -/
theorem proved : Rows.FnExactCheckEmptySaid := over
end Go.Proofs.Ytlgjhojihgmfhaa.fnExactCheckEmpty
