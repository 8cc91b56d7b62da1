/- The given statement on FnExactIsDelaunay: for every input it returns true, and the input reads as before. The walk is c_laws_FnExactIsDelaunay; this is the frame around it. There are no further conditions. -/
import Derived.Test.YtmcpjnaedgpenaaRows
import Derived.WalkKit
import Derived.ProofKit
import Derived.OpenShut
import Derived.ShutString
import Derived.ChangeOld
import Derived.Below
import Derived.Test.YtmcpjnaedgpenaaB26
import Derived.Test.YtmcpjnaedgpenaaCb
import Derived.Test.YtmcpjnaedgpenaaBW
import Derived.Test.YtmcpjnaedgpenaaFac
namespace Go.Proofs.Ytmcpjnaedgpenaa.fnExactIsDelaunay
open Go Go.ChangeShapes Go.WideShapes Go.ChangeAt Go.RowKit Go.Ideal Go.Pl
set_option linter.unusedVariables false
set_option linter.unusedSimpArgs false


theorem walk (a0 : Option Addr) (len0 cap0 : Nat) (l0 : List Pt) (a1 : Option Addr) (len1 cap1 : Nat) (l1 : List Tr) (w : World) (w0 : RepV (bare (fun _ => False) w) (.sl 2 (encPs l0)) (.slice a0 len0 cap0)) (w1 : RepV (bare (fun _ => False) w) (.sl 3 (encTs l1)) (.slice a1 len1 cap1)) :
    Calls Try.prog 4 #[.slice a0 len0 cap0, .slice a1 len1 cap1] w fun e w' => e = .returned (.bool true) ∧ Below w.heap.size w w' := by
  refine calls_of_icall (c_laws_FnExactIsDelaunay l0 l1 ) ?_
  simp only [RepL]
  exact ⟨_, _, rfl, w0, _, _, rfl, w1, rfl⟩

set_option maxRecDepth 100000 in
theorem lifted (os : Os) (started : os.Started) (H : Type) (enc : TypeId × Value → H) :
    ReturnsInHanded {} Try.checked os 4 .any (Rows.fnExactIsDelaunaySpec.pre6 enc Try.prog Try.f4 Rows.fnExactIsDelaunayRow.domain false) (Rows.fnExactIsDelaunaySpec.post enc Try.prog Try.f4 false true false false) := by
  refine returnsInHanded_of_change (C := Try.checked) own started (by kernel_rfl) Try.func4
    (ChangeSpec.witness6 (enc := enc) (C := Try.checked) false ⟨#[], #[.slice none 0 0, .slice none 0 0], []⟩ 8 (by kernel_rfl) (by kernel_rfl) (by kernel_rfl) (by kernel_rfl)) ?_
  intro W base args ds gs before hval0 hW hcnd _
  have hval : ∀ (j : Nat) t v, Try.f4.params[j]? = some t → args[j]? = some v → Value.okWide Try.prog W .any base t v := hval0
  have hW' := hW
  obtain ⟨p, q, hA0, hV, rfl, hfz, hnd⟩ := hW
  have hA : DataW.TrodAll enc Try.prog W 0 (fun _ => true) true Try.f4.params.toList args.toList ds p := hA0
  rw [Try.params4] at hA hval
  obtain ⟨v0, vs0, d0, ds0, p0, q0, hargs, rfl, rfl, h0, r0⟩ := trodAll_cons hA
  obtain ⟨v1, vs1, d1, ds1, p1, q1, rfl, rfl, rfl, h1, r1⟩ := trodAll_cons r0
  obtain ⟨rfl, rfl, rfl⟩ := trodAll_nil r1
  obtain rfl : args = #[v0, v1] := by cases args; simp_all
  obtain ⟨rfl, rfl⟩ := trodVars_none hV
  have k0 := h0
  have lt0 : ∀ x ∈ p0, x.block < W.heap.size := by obtain ⟨m, hm⟩ := k0; exact DataW.trod_lt m _ _ _ hm
  obtain ⟨a0, len0, cap0, rfl⟩ := okWide_slice Try.underlying32 (hval 0 32 v0 rfl rfl)
  obtain ⟨l0, w0⟩ : ∃ l : List Pt, RepV (bare (fun _ => False) W) (.sl 2 (encPs l)) (.slice a0 len0 cap0) := by
    obtain ⟨fuel, hf⟩ := h0
    exact rep_Ps (fuel := fuel) Try.underlying32 (Flat.two Try.underlying47 (by kernel_rfl) rfl rfl (by kernel_rfl) (by kernel_rfl) (Flat.int Try.underlying3) (Flat.int Try.underlying3)) (by kernel_rfl) (by simpa [Value.cells] using hf)
  have k1 := h1
  have lt1 : ∀ x ∈ p1, x.block < W.heap.size := by obtain ⟨m, hm⟩ := k1; exact DataW.trod_lt m _ _ _ hm
  obtain ⟨a1, len1, cap1, rfl⟩ := okWide_slice Try.underlying33 (hval 1 33 v1 rfl rfl)
  obtain ⟨l1, w1⟩ : ∃ l : List Tr, RepV (bare (fun _ => False) W) (.sl 3 (encTs l)) (.slice a1 len1 cap1) := by
    obtain ⟨fuel, hf⟩ := h1
    exact rep_Ts (fuel := fuel) Try.underlying33 (Flat.three Try.underlying66 (by kernel_rfl) rfl rfl rfl (by kernel_rfl) (by kernel_rfl) (by kernel_rfl) (Flat.int Try.underlying3) (Flat.int Try.underlying3) (Flat.int Try.underlying3)) (by kernel_rfl) (by simpa [Value.cells] using hf)
  clear hA0 hval0
  refine (walk a0 len0 cap0 l0 a1 len1 cap1 l1 W w0 w1).mono fun e W' ⟨he, bel⟩ => ?_
  subst he
  exact ⟨_, rfl, _, _, _, [], _, [], hW', trodAll_mk1 (shut_bool Try.underlying4 _), (trodAll_cons_mk (Below.trod fac_laid (by kernel_rfl) (of_decide_eq_true (by kernel_rfl)) k0 bel lt0) (trodAll_cons_mk (Below.trod fac_laid (by kernel_rfl) (of_decide_eq_true (by kernel_rfl)) k1 bel lt1) trodAll_mk0)), rfl, bel.frame _, fun h => by cases h⟩

theorem q0 : (Rows.fnExactIsDelaunayRow.wf (OpenSpec.ofChange Rows.fnExactIsDelaunaySpec)) = true := by kernel_rfl
theorem q3 : (Try.f4.params.all (Try.prog.readableRec ·)) = true := by kernel_rfl
theorem q4 : (namedTie Try.prog Rows.fnExactIsDelaunayRow.named Rows.fnExactIsDelaunaySpec.vars) = true := by kernel_rfl
theorem q5 : (Rows.fnExactIsDelaunayRow.stops == []) = true := by kernel_rfl
theorem q7 : (Rows.fnExactIsDelaunayRow.knobs == []) = true := by kernel_rfl
theorem q9 : (Rows.fnExactIsDelaunayRow.inPlace == Try.prog.inPlace 4) = true := by kernel_rfl
theorem q10 : (Rows.fnExactIsDelaunayRow.unfollowed == Try.prog.unfollowed 4) = true := by kernel_rfl
theorem q11 : (Rows.fnExactIsDelaunayRow.recurses == Try.prog.recurses 4) = true := by kernel_rfl
theorem q12 : (Rows.fnExactIsDelaunayRow.named == Try.prog.varsNamed 4) = true := by kernel_rfl
theorem q13 : (Rows.fnExactIsDelaunayRow.maps == (Try.f4.params.toList ++ Rows.fnExactIsDelaunaySpec.plain.varTypes Try.prog).any (Try.prog.mapsRec ·)) = true := by kernel_rfl
theorem q14 : (Rows.fnExactIsDelaunayRow.ifaces == (Try.f4.params.toList ++ Rows.fnExactIsDelaunaySpec.plain.varTypes Try.prog).any (Try.prog.ifacesRec ·)) = true := by kernel_rfl
theorem q15 : (Rows.fnExactIsDelaunayRow.mapsOut == Try.prog.mapsAmong Try.f4.resultTypes.toList) = true := by kernel_rfl
theorem q16 : (Rows.fnExactIsDelaunayRow.loops == (Try.f4.params.toList ++ Rows.fnExactIsDelaunaySpec.plain.varTypes Try.prog).any (Try.prog.loopsFrom ·)) = true := by kernel_rfl
theorem q17 : (Rows.fnExactIsDelaunayRow.wideKeys == (Try.f4.params.toList ++ Rows.fnExactIsDelaunaySpec.plain.varTypes Try.prog ++ Try.f4.resultTypes.toList).any (Try.prog.wideKeysFrom ·)) = true := by kernel_rfl
theorem q18 : (Rows.fnExactIsDelaunaySpec.vars.all (Try.prog.varReadable ·)) = true := by kernel_rfl
theorem q19 : (Try.f4.resultTypes.all (fun t => Try.prog.readableRec t && decide (t < Try.prog.types.size))) = true := by kernel_rfl
theorem q20 : (Rows.fnExactIsDelaunayRow.ifacesOut == Try.f4.resultTypes.toList.any (Try.prog.ifacesRec ·)) = true := by kernel_rfl
theorem q21 : (Rows.fnExactIsDelaunayRow.loopsOut == Try.f4.resultTypes.toList.any (Try.prog.loopsFrom ·)) = true := by kernel_rfl
theorem q22 : (Rows.fnExactIsDelaunayRow.plainKeys == Try.prog.plainKeys) = true := by kernel_rfl
theorem q23 : Rows.fnExactIsDelaunayRow.shortTexts.isNone = true := by kernel_rfl
theorem q26 : (Rows.fnExactIsDelaunayRow.lifted == Try.prog.liftsFinal) = true := by kernel_rfl
theorem q27 : (Try.prog.make == some Rows.fnExactIsDelaunayRow.make) = true := by kernel_rfl
theorem q28 : (Rows.fnExactIsDelaunayRow.kinds == (if Rows.fnExactIsDelaunayRow.domain.isEmpty then [] else Try.f4.params.toList.map fun t => match Try.prog.underlying t with | some (.int k) => some k | _ => none)) = true := by kernel_rfl
theorem q29 : (Rows.fnExactIsDelaunayRow.pinned == Rows.fnExactIsDelaunayRow.pinnedBy) = true := by kernel_rfl
theorem q30 : (Rows.fnExactIsDelaunayRow.veiled == (Try.f4.params.toList ++ Rows.fnExactIsDelaunaySpec.plain.varTypes Try.prog ++ Try.f4.resultTypes.toList).any (Try.prog.veiledRec ·)) = true := by kernel_rfl
theorem q31 : (Rows.fnExactIsDelaunayRow.veiledFits Try.prog Try.f4.params.toList (Try.f4.params.toList ++ Rows.fnExactIsDelaunaySpec.plain.varTypes Try.prog ++ Try.f4.resultTypes.toList)) = true := by kernel_rfl
set_option maxRecDepth 100000 in
theorem closed : joinedFacts Try.prog 4 Try.f4 Rows.fnExactIsDelaunaySpec Rows.fnExactIsDelaunayRow = true := by
  unfold joinedFacts
  exact (and2 (and2 (and2 (and2 (and2 (and2 (and2 (and2 (and2 (and2 (and2 (and2 (and2 (and2 (and2 (and2 (and2 (and2 (and2 (and2 (and2 (and2 (and2 (and2 (and2 (and2 (and2 (and2 (and2 (and2 (and2 q0 fac_laid) fac_mapsRowed) q3) q4) q5) fac_stops) q7) fac_stopKnobs) q9) q10) q11) q12) q13) q14) q15) q16) q17) q18) q19) q20) q21) q22) q23) fac_stopsHeard) fac_mayEnter) q26) q27) q28) q29) q30) q31)
theorem named : Try.prog.funcNamed Rows.fnExactIsDelaunayRow.func = some 4 := by kernel_rfl
theorem inst : Try.f4.isInstance Try.prog Rows.fnExactIsDelaunayRow.origin Rows.fnExactIsDelaunayRow.targs := of_decide_eq_true (by kernel_rfl)
theorem wrap : Try.f4.isWrapper Try.prog Rows.fnExactIsDelaunayRow.wrapper Rows.fnExactIsDelaunayRow.mainSum := by unfold Func.isWrapper; first | (rw [if_pos (by decide +kernel)]; kernel_rfl) | (rw [if_neg (by decide +kernel)]; exact ⟨rfl, rfl⟩)
set_option maxRecDepth 100000 in
theorem over : Rows.fnExactIsDelaunayRow.holds Try.pinned (OpenSpec.ofChange Rows.fnExactIsDelaunaySpec) :=
  OpenClaim.holds_of_wide 4 Try.f4 rfl rfl rfl rfl rfl rfl rfl ⟨rfl, rfl, rfl, rfl, rfl⟩ rfl rfl rfl rfl rfl named Try.func4 closed inst wrap
    (fun os started H enc _ => lifted os started H enc)

/-- The statement. -/
theorem proved : Rows.FnExactIsDelaunaySaid := over
end Go.Proofs.Ytmcpjnaedgpenaa.fnExactIsDelaunay
