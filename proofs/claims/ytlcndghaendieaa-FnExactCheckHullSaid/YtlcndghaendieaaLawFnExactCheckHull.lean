/- The given statement on FnExactCheckHull: for every input it returns true, and the input reads as before. The walk is c_laws_FnExactCheckHull; this is the frame around it. There are no further conditions. -/
import Derived.Test.YtlcndghaendieaaRows
import Derived.WalkKit
import Derived.ProofKit
import Derived.OpenShut
import Derived.ShutString
import Derived.ChangeOld
import Derived.Below
import Derived.Test.YtlcndghaendieaaB98
import Derived.Test.YtlcndghaendieaaCb
import Derived.Test.YtlcndghaendieaaBWl
import Derived.Test.YtlcndghaendieaaFac
namespace Go.Proofs.Ytlcndghaendieaa.fnExactCheckHull
open Go Go.ChangeShapes Go.WideShapes Go.ChangeAt Go.RowKit Go.Ideal Go.Pl
set_option linter.unusedVariables false
set_option linter.unusedSimpArgs false


theorem walk (a0 : Option Addr) (len0 cap0 : Nat) (l0 : List Pt) (a1 : Option Addr) (len1 cap1 : Nat) (l1 : List Pt) (a2 : Option Addr) (len2 cap2 : Nat) (l2 : List (List Int)) (w : World) (w0 : RepV (bare (fun _ => False) w) (.sl 2 (encPs l0)) (.slice a0 len0 cap0)) (w1 : RepV (bare (fun _ => False) w) (.sl 2 (encPs l1)) (.slice a1 len1 cap1)) (w2 : RepV (bare (fun _ => False) w) (.sl 1 (encLI l2)) (.slice a2 len2 cap2)) :
    Calls Try.prog 6 #[.slice a0 len0 cap0, .slice a1 len1 cap1, .slice a2 len2 cap2] w fun e w' => e = .returned (.bool true) ∧ Below w.heap.size w w' := by
  refine calls_of_icall (c_laws_FnExactCheckHull l0 l1 l2 ) ?_
  simp only [RepL]
  exact ⟨_, _, rfl, w0, _, _, rfl, w1, _, _, rfl, w2, rfl⟩

set_option maxRecDepth 100000 in
theorem lifted (os : Os) (started : os.Started) (H : Type) (enc : TypeId × Value → H) :
    ReturnsInHanded {} Try.checked os 6 .any (Rows.fnExactCheckHullSpec.pre6 enc Try.prog Try.f6 Rows.fnExactCheckHullRow.domain false) (Rows.fnExactCheckHullSpec.post enc Try.prog Try.f6 false true false false) := by
  refine returnsInHanded_of_change (C := Try.checked) own started (by kernel_rfl) Try.func6
    (ChangeSpec.witness6 (enc := enc) (C := Try.checked) false ⟨#[], #[.slice none 0 0, .slice none 0 0, .slice none 0 0], []⟩ 8 (by kernel_rfl) (by kernel_rfl) (by kernel_rfl) (by kernel_rfl)) ?_
  intro W base args ds gs before hval0 hW hcnd _
  have hval : ∀ (j : Nat) t v, Try.f6.params[j]? = some t → args[j]? = some v → Value.okWide Try.prog W .any base t v := hval0
  have hW' := hW
  obtain ⟨p, q, hA0, hV, rfl, hfz, hnd⟩ := hW
  have hA : DataW.TrodAll enc Try.prog W 0 (fun _ => true) true Try.f6.params.toList args.toList ds p := hA0
  rw [Try.params6] at hA hval
  obtain ⟨v0, vs0, d0, ds0, p0, q0, hargs, rfl, rfl, h0, r0⟩ := trodAll_cons hA
  obtain ⟨v1, vs1, d1, ds1, p1, q1, rfl, rfl, rfl, h1, r1⟩ := trodAll_cons r0
  obtain ⟨v2, vs2, d2, ds2, p2, q2, rfl, rfl, rfl, h2, r2⟩ := trodAll_cons r1
  obtain ⟨rfl, rfl, rfl⟩ := trodAll_nil r2
  obtain rfl : args = #[v0, v1, v2] := by cases args; simp_all
  obtain ⟨rfl, rfl⟩ := trodVars_none hV
  have k0 := h0
  have lt0 : ∀ x ∈ p0, x.block < W.heap.size := by obtain ⟨m, hm⟩ := k0; exact DataW.trod_lt m _ _ _ hm
  obtain ⟨a0, len0, cap0, rfl⟩ := okWide_slice Try.underlying39 (hval 0 39 v0 rfl rfl)
  obtain ⟨l0, w0⟩ : ∃ l : List Pt, RepV (bare (fun _ => False) W) (.sl 2 (encPs l)) (.slice a0 len0 cap0) := by
    obtain ⟨fuel, hf⟩ := h0
    exact rep_Ps (fuel := fuel) Try.underlying39 (Flat.two Try.underlying69 (by kernel_rfl) rfl rfl (by kernel_rfl) (by kernel_rfl) (Flat.int Try.underlying3) (Flat.int Try.underlying3)) (by kernel_rfl) (by simpa [Value.cells] using hf)
  have k1 := h1
  have lt1 : ∀ x ∈ p1, x.block < W.heap.size := by obtain ⟨m, hm⟩ := k1; exact DataW.trod_lt m _ _ _ hm
  obtain ⟨a1, len1, cap1, rfl⟩ := okWide_slice Try.underlying39 (hval 1 39 v1 rfl rfl)
  obtain ⟨l1, w1⟩ : ∃ l : List Pt, RepV (bare (fun _ => False) W) (.sl 2 (encPs l)) (.slice a1 len1 cap1) := by
    obtain ⟨fuel, hf⟩ := h1
    exact rep_Ps (fuel := fuel) Try.underlying39 (Flat.two Try.underlying69 (by kernel_rfl) rfl rfl (by kernel_rfl) (by kernel_rfl) (Flat.int Try.underlying3) (Flat.int Try.underlying3)) (by kernel_rfl) (by simpa [Value.cells] using hf)
  have k2 := h2
  have lt2 : ∀ x ∈ p2, x.block < W.heap.size := by obtain ⟨m, hm⟩ := k2; exact DataW.trod_lt m _ _ _ hm
  obtain ⟨a2, len2, cap2, rfl⟩ := okWide_slice Try.underlying45 (hval 2 45 v2 rfl rfl)
  obtain ⟨l2, w2⟩ : ∃ l : List (List Int), RepV (bare (fun _ => False) W) (.sl 1 (encLI l)) (.slice a2 len2 cap2) := by
    obtain ⟨fuel, hf⟩ := h2
    exact rep_LIs (fuel := fuel) Try.underlying45 Try.underlying72 (Flat.int Try.underlying3) (by kernel_rfl) (by kernel_rfl) (by simpa [Value.cells] using hf)
  clear hA0 hval0
  refine (walk a0 len0 cap0 l0 a1 len1 cap1 l1 a2 len2 cap2 l2 W w0 w1 w2).mono fun e W' ⟨he, bel⟩ => ?_
  subst he
  exact ⟨_, rfl, _, _, _, [], _, [], hW', trodAll_mk1 (shut_bool Try.underlying4 _), (trodAll_cons_mk (Below.trod fac_laid (by kernel_rfl) (of_decide_eq_true (by kernel_rfl)) k0 bel lt0) (trodAll_cons_mk (Below.trod fac_laid (by kernel_rfl) (of_decide_eq_true (by kernel_rfl)) k1 bel lt1) (trodAll_cons_mk (Below.trod fac_laid (by kernel_rfl) (of_decide_eq_true (by kernel_rfl)) k2 bel lt2) trodAll_mk0))), rfl, bel.frame _, fun h => by cases h⟩

theorem q0 : (Rows.fnExactCheckHullRow.wf (OpenSpec.ofChange Rows.fnExactCheckHullSpec)) = true := by kernel_rfl
theorem q3 : (Try.f6.params.all (Try.prog.readableRec ·)) = true := by kernel_rfl
theorem q4 : (namedTie Try.prog Rows.fnExactCheckHullRow.named Rows.fnExactCheckHullSpec.vars) = true := by kernel_rfl
theorem q5 : (Rows.fnExactCheckHullRow.stops == []) = true := by kernel_rfl
theorem q7 : (Rows.fnExactCheckHullRow.knobs == []) = true := by kernel_rfl
theorem q9 : (Rows.fnExactCheckHullRow.inPlace == Try.prog.inPlace 6) = true := by kernel_rfl
theorem q10 : (Rows.fnExactCheckHullRow.unfollowed == Try.prog.unfollowed 6) = true := by kernel_rfl
theorem q11 : (Rows.fnExactCheckHullRow.recurses == Try.prog.recurses 6) = true := by kernel_rfl
theorem q12 : (Rows.fnExactCheckHullRow.named == Try.prog.varsNamed 6) = true := by kernel_rfl
theorem q13 : (Rows.fnExactCheckHullRow.maps == (Try.f6.params.toList ++ Rows.fnExactCheckHullSpec.plain.varTypes Try.prog).any (Try.prog.mapsRec ·)) = true := by kernel_rfl
theorem q14 : (Rows.fnExactCheckHullRow.ifaces == (Try.f6.params.toList ++ Rows.fnExactCheckHullSpec.plain.varTypes Try.prog).any (Try.prog.ifacesRec ·)) = true := by kernel_rfl
theorem q15 : (Rows.fnExactCheckHullRow.mapsOut == Try.prog.mapsAmong Try.f6.resultTypes.toList) = true := by kernel_rfl
theorem q16 : (Rows.fnExactCheckHullRow.loops == (Try.f6.params.toList ++ Rows.fnExactCheckHullSpec.plain.varTypes Try.prog).any (Try.prog.loopsFrom ·)) = true := by kernel_rfl
theorem q17 : (Rows.fnExactCheckHullRow.wideKeys == (Try.f6.params.toList ++ Rows.fnExactCheckHullSpec.plain.varTypes Try.prog ++ Try.f6.resultTypes.toList).any (Try.prog.wideKeysFrom ·)) = true := by kernel_rfl
theorem q18 : (Rows.fnExactCheckHullSpec.vars.all (Try.prog.varReadable ·)) = true := by kernel_rfl
theorem q19 : (Try.f6.resultTypes.all (fun t => Try.prog.readableRec t && decide (t < Try.prog.types.size))) = true := by kernel_rfl
theorem q20 : (Rows.fnExactCheckHullRow.ifacesOut == Try.f6.resultTypes.toList.any (Try.prog.ifacesRec ·)) = true := by kernel_rfl
theorem q21 : (Rows.fnExactCheckHullRow.loopsOut == Try.f6.resultTypes.toList.any (Try.prog.loopsFrom ·)) = true := by kernel_rfl
theorem q22 : (Rows.fnExactCheckHullRow.plainKeys == Try.prog.plainKeys) = true := by kernel_rfl
theorem q23 : Rows.fnExactCheckHullRow.shortTexts.isNone = true := by kernel_rfl
theorem q26 : (Rows.fnExactCheckHullRow.lifted == Try.prog.liftsFinal) = true := by kernel_rfl
theorem q27 : (Try.prog.make == some Rows.fnExactCheckHullRow.make) = true := by kernel_rfl
theorem q28 : (Rows.fnExactCheckHullRow.kinds == (if Rows.fnExactCheckHullRow.domain.isEmpty then [] else Try.f6.params.toList.map fun t => match Try.prog.underlying t with | some (.int k) => some k | _ => none)) = true := by kernel_rfl
theorem q29 : (Rows.fnExactCheckHullRow.pinned == Rows.fnExactCheckHullRow.pinnedBy) = true := by kernel_rfl
theorem q30 : (Rows.fnExactCheckHullRow.veiled == (Try.f6.params.toList ++ Rows.fnExactCheckHullSpec.plain.varTypes Try.prog ++ Try.f6.resultTypes.toList).any (Try.prog.veiledRec ·)) = true := by kernel_rfl
theorem q31 : (Rows.fnExactCheckHullRow.veiledFits Try.prog Try.f6.params.toList (Try.f6.params.toList ++ Rows.fnExactCheckHullSpec.plain.varTypes Try.prog ++ Try.f6.resultTypes.toList)) = true := by kernel_rfl
set_option maxRecDepth 100000 in
theorem closed : joinedFacts Try.prog 6 Try.f6 Rows.fnExactCheckHullSpec Rows.fnExactCheckHullRow = true := by
  unfold joinedFacts
  exact (and2 (and2 (and2 (and2 (and2 (and2 (and2 (and2 (and2 (and2 (and2 (and2 (and2 (and2 (and2 (and2 (and2 (and2 (and2 (and2 (and2 (and2 (and2 (and2 (and2 (and2 (and2 (and2 (and2 (and2 (and2 q0 fac_laid) fac_mapsRowed) q3) q4) q5) fac_stops) q7) fac_stopKnobs) q9) q10) q11) q12) q13) q14) q15) q16) q17) q18) q19) q20) q21) q22) q23) fac_stopsHeard) fac_mayEnter) q26) q27) q28) q29) q30) q31)
theorem named : Try.prog.funcNamed Rows.fnExactCheckHullRow.func = some 6 := by kernel_rfl
theorem inst : Try.f6.isInstance Try.prog Rows.fnExactCheckHullRow.origin Rows.fnExactCheckHullRow.targs := of_decide_eq_true (by kernel_rfl)
theorem wrap : Try.f6.isWrapper Try.prog Rows.fnExactCheckHullRow.wrapper Rows.fnExactCheckHullRow.mainSum := by unfold Func.isWrapper; first | (rw [if_pos (by decide +kernel)]; kernel_rfl) | (rw [if_neg (by decide +kernel)]; exact ⟨rfl, rfl⟩)
set_option maxRecDepth 100000 in
theorem over : Rows.fnExactCheckHullRow.holds Try.pinned (OpenSpec.ofChange Rows.fnExactCheckHullSpec) :=
  OpenClaim.holds_of_wide 6 Try.f6 rfl rfl rfl rfl rfl rfl rfl ⟨rfl, rfl, rfl, rfl, rfl⟩ rfl rfl rfl rfl rfl named Try.func6 closed inst wrap
    (fun os started H enc _ => lifted os started H enc)

/-- The statement. -/
theorem proved : Rows.FnExactCheckHullSaid := over
end Go.Proofs.Ytlcndghaendieaa.fnExactCheckHull
