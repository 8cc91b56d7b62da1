/- The given statement on FnBoundaryCount: for every input it returns true, and the input reads as before. The walk is c_laws_FnBoundaryCount; this is the frame around it. There are no further conditions. -/
import Derived.Test.YtemppebemahkoaaRows
import Derived.WalkKit
import Derived.ProofKit
import Derived.OpenShut
import Derived.ShutString
import Derived.ChangeOld
import Derived.Below
import Derived.Test.YtemppebemahkoaaB73
import Derived.Test.YtemppebemahkoaaCb
import Derived.Test.YtemppebemahkoaaFac
namespace Go.Proofs.Ytemppebemahkoaa.fnBoundaryCount
open Go Go.ChangeShapes Go.WideShapes Go.ChangeAt Go.RowKit Go.Ideal Go.Pl
set_option linter.unusedVariables false
set_option linter.unusedSimpArgs false


theorem walk (a0 : Option Addr) (len0 cap0 : Nat) (z0 : List Int) (a1 : Option Addr) (len1 cap1 : Nat) (z1 : List Int) (w : World) (w0 : IsRow .u8 w a0 len0 cap0 z0) (w1 : IsRow .u8 w a1 len1 cap1 z1) :
    Calls Try.prog 12 #[.slice a0 len0 cap0, .slice a1 len1 cap1] w fun e w' => e = .returned (.bool true) ∧ Below w.heap.size w w' := by
  refine calls_of_icall (c_laws_FnBoundaryCount (z0.take len0) (z1.take len1) (row_bytes w0) (row_bytes w1)) ?_
  simp only [RepL]
  exact ⟨_, _, rfl, isRow_rep w0, _, _, rfl, isRow_rep w1, rfl⟩

set_option maxRecDepth 100000 in
theorem lifted (os : Os) (started : os.Started) (H : Type) (enc : TypeId × Value → H) :
    ReturnsInHanded {} Try.checked os 12 .any (Rows.fnBoundaryCountSpec.pre6 enc Try.prog Try.f12 Rows.fnBoundaryCountRow.domain false) (Rows.fnBoundaryCountSpec.post enc Try.prog Try.f12 false true false false) := by
  refine returnsInHanded_of_change (C := Try.checked) own started (by kernel_rfl) Try.func12
    (ChangeSpec.witness6 (enc := enc) (C := Try.checked) false ⟨#[], #[.slice none 0 0, .slice none 0 0], []⟩ 8 (by kernel_rfl) (by kernel_rfl) (by kernel_rfl) (by kernel_rfl)) ?_
  intro W base args ds gs before hval0 hW hcnd _
  have hval : ∀ (j : Nat) t v, Try.f12.params[j]? = some t → args[j]? = some v → Value.okWide Try.prog W .any base t v := hval0
  have hW' := hW
  obtain ⟨p, q, hA0, hV, rfl, hfz, hnd⟩ := hW
  have hA : DataW.TrodAll enc Try.prog W 0 (fun _ => true) true Try.f12.params.toList args.toList ds p := hA0
  rw [Try.params12] at hA hval
  obtain ⟨v0, vs0, d0, ds0, p0, q0, hargs, rfl, rfl, h0, r0⟩ := trodAll_cons hA
  obtain ⟨v1, vs1, d1, ds1, p1, q1, rfl, rfl, rfl, h1, r1⟩ := trodAll_cons r0
  obtain ⟨rfl, rfl, rfl⟩ := trodAll_nil r1
  obtain rfl : args = #[v0, v1] := by cases args; simp_all
  obtain ⟨rfl, rfl⟩ := trodVars_none hV
  have k0 := h0
  have lt0 : ∀ x ∈ p0, x.block < W.heap.size := by obtain ⟨m, hm⟩ := k0; exact DataW.trod_lt m _ _ _ hm
  obtain ⟨a0, len0, cap0, rfl⟩ := okWide_slice Try.underlying22 (hval 0 22 v0 rfl rfl)
  obtain ⟨z0, w0⟩ : ∃ zs, IsRow .u8 W a0 len0 cap0 zs := by
    obtain ⟨fuel, hf⟩ := h0
    rcases open_ints Try.underlying22 Try.underlying5 (by kernel_rfl) hf with ⟨hcs, _⟩ | ⟨x, l, c, zs, hcs, _, hl, hm, hz, _, hcell, hwz⟩
    · simp [Value.cells] at hcs
      obtain ⟨rfl, rfl, rfl⟩ := hcs
      exact ⟨[], .inl ⟨rfl, rfl, rfl, rfl⟩⟩
    · simp [Value.cells] at hcs
      obtain ⟨rfl, rfl, rfl⟩ := hcs
      exact ⟨zs, .inr ⟨_, rfl, hl, hm, by simpa using hz, hcell, hwz⟩⟩
  have k1 := h1
  have lt1 : ∀ x ∈ p1, x.block < W.heap.size := by obtain ⟨m, hm⟩ := k1; exact DataW.trod_lt m _ _ _ hm
  obtain ⟨a1, len1, cap1, rfl⟩ := okWide_slice Try.underlying22 (hval 1 22 v1 rfl rfl)
  obtain ⟨z1, w1⟩ : ∃ zs, IsRow .u8 W a1 len1 cap1 zs := by
    obtain ⟨fuel, hf⟩ := h1
    rcases open_ints Try.underlying22 Try.underlying5 (by kernel_rfl) hf with ⟨hcs, _⟩ | ⟨x, l, c, zs, hcs, _, hl, hm, hz, _, hcell, hwz⟩
    · simp [Value.cells] at hcs
      obtain ⟨rfl, rfl, rfl⟩ := hcs
      exact ⟨[], .inl ⟨rfl, rfl, rfl, rfl⟩⟩
    · simp [Value.cells] at hcs
      obtain ⟨rfl, rfl, rfl⟩ := hcs
      exact ⟨zs, .inr ⟨_, rfl, hl, hm, by simpa using hz, hcell, hwz⟩⟩
  clear hA0 hval0
  refine (walk a0 len0 cap0 z0 a1 len1 cap1 z1 W w0 w1).mono fun e W' ⟨he, bel⟩ => ?_
  subst he
  exact ⟨_, rfl, _, _, _, [], _, [], hW', trodAll_mk1 (shut_bool Try.underlying4 _), (trodAll_cons_mk (Below.trod fac_laid (by kernel_rfl) (of_decide_eq_true (by kernel_rfl)) k0 bel lt0) (trodAll_cons_mk (Below.trod fac_laid (by kernel_rfl) (of_decide_eq_true (by kernel_rfl)) k1 bel lt1) trodAll_mk0)), rfl, bel.frame _, fun h => by cases h⟩

theorem q0 : (Rows.fnBoundaryCountRow.wf (OpenSpec.ofChange Rows.fnBoundaryCountSpec)) = true := by kernel_rfl
theorem q3 : (Try.f12.params.all (Try.prog.readableRec ·)) = true := by kernel_rfl
theorem q4 : (namedTie Try.prog Rows.fnBoundaryCountRow.named Rows.fnBoundaryCountSpec.vars) = true := by kernel_rfl
theorem q5 : (Rows.fnBoundaryCountRow.stops == []) = true := by kernel_rfl
theorem q7 : (Rows.fnBoundaryCountRow.knobs == []) = true := by kernel_rfl
theorem q9 : (Rows.fnBoundaryCountRow.inPlace == Try.prog.inPlace 12) = true := by kernel_rfl
theorem q10 : (Rows.fnBoundaryCountRow.unfollowed == Try.prog.unfollowed 12) = true := by kernel_rfl
theorem q11 : (Rows.fnBoundaryCountRow.recurses == Try.prog.recurses 12) = true := by kernel_rfl
theorem q12 : (Rows.fnBoundaryCountRow.named == Try.prog.varsNamed 12) = true := by kernel_rfl
theorem q13 : (Rows.fnBoundaryCountRow.maps == (Try.f12.params.toList ++ Rows.fnBoundaryCountSpec.plain.varTypes Try.prog).any (Try.prog.mapsRec ·)) = true := by kernel_rfl
theorem q14 : (Rows.fnBoundaryCountRow.ifaces == (Try.f12.params.toList ++ Rows.fnBoundaryCountSpec.plain.varTypes Try.prog).any (Try.prog.ifacesRec ·)) = true := by kernel_rfl
theorem q15 : (Rows.fnBoundaryCountRow.mapsOut == Try.prog.mapsAmong Try.f12.resultTypes.toList) = true := by kernel_rfl
theorem q16 : (Rows.fnBoundaryCountRow.loops == (Try.f12.params.toList ++ Rows.fnBoundaryCountSpec.plain.varTypes Try.prog).any (Try.prog.loopsFrom ·)) = true := by kernel_rfl
theorem q17 : (Rows.fnBoundaryCountRow.wideKeys == (Try.f12.params.toList ++ Rows.fnBoundaryCountSpec.plain.varTypes Try.prog ++ Try.f12.resultTypes.toList).any (Try.prog.wideKeysFrom ·)) = true := by kernel_rfl
theorem q18 : (Rows.fnBoundaryCountSpec.vars.all (Try.prog.varReadable ·)) = true := by kernel_rfl
theorem q19 : (Try.f12.resultTypes.all (fun t => Try.prog.readableRec t && decide (t < Try.prog.types.size))) = true := by kernel_rfl
theorem q20 : (Rows.fnBoundaryCountRow.ifacesOut == Try.f12.resultTypes.toList.any (Try.prog.ifacesRec ·)) = true := by kernel_rfl
theorem q21 : (Rows.fnBoundaryCountRow.loopsOut == Try.f12.resultTypes.toList.any (Try.prog.loopsFrom ·)) = true := by kernel_rfl
theorem q22 : (Rows.fnBoundaryCountRow.plainKeys == Try.prog.plainKeys) = true := by kernel_rfl
theorem q23 : Rows.fnBoundaryCountRow.shortTexts.isNone = true := by kernel_rfl
theorem q26 : (Rows.fnBoundaryCountRow.lifted == Try.prog.liftsFinal) = true := by kernel_rfl
theorem q27 : (Try.prog.make == some Rows.fnBoundaryCountRow.make) = true := by kernel_rfl
theorem q28 : (Rows.fnBoundaryCountRow.kinds == (if Rows.fnBoundaryCountRow.domain.isEmpty then [] else Try.f12.params.toList.map fun t => match Try.prog.underlying t with | some (.int k) => some k | _ => none)) = true := by kernel_rfl
theorem q29 : (Rows.fnBoundaryCountRow.pinned == Rows.fnBoundaryCountRow.pinnedBy) = true := by kernel_rfl
theorem q30 : (Rows.fnBoundaryCountRow.veiled == (Try.f12.params.toList ++ Rows.fnBoundaryCountSpec.plain.varTypes Try.prog ++ Try.f12.resultTypes.toList).any (Try.prog.veiledRec ·)) = true := by kernel_rfl
theorem q31 : (Rows.fnBoundaryCountRow.veiledFits Try.prog Try.f12.params.toList (Try.f12.params.toList ++ Rows.fnBoundaryCountSpec.plain.varTypes Try.prog ++ Try.f12.resultTypes.toList)) = true := by kernel_rfl
set_option maxRecDepth 100000 in
theorem closed : joinedFacts Try.prog 12 Try.f12 Rows.fnBoundaryCountSpec Rows.fnBoundaryCountRow = true := by
  unfold joinedFacts
  exact (and2 (and2 (and2 (and2 (and2 (and2 (and2 (and2 (and2 (and2 (and2 (and2 (and2 (and2 (and2 (and2 (and2 (and2 (and2 (and2 (and2 (and2 (and2 (and2 (and2 (and2 (and2 (and2 (and2 (and2 (and2 q0 fac_laid) fac_mapsRowed) q3) q4) q5) fac_stops) q7) fac_stopKnobs) q9) q10) q11) q12) q13) q14) q15) q16) q17) q18) q19) q20) q21) q22) q23) fac_stopsHeard) fac_mayEnter) q26) q27) q28) q29) q30) q31)
theorem named : Try.prog.funcNamed Rows.fnBoundaryCountRow.func = some 12 := by kernel_rfl
theorem inst : Try.f12.isInstance Try.prog Rows.fnBoundaryCountRow.origin Rows.fnBoundaryCountRow.targs := of_decide_eq_true (by kernel_rfl)
theorem wrap : Try.f12.isWrapper Try.prog Rows.fnBoundaryCountRow.wrapper Rows.fnBoundaryCountRow.mainSum := by unfold Func.isWrapper; first | (rw [if_pos (by decide +kernel)]; kernel_rfl) | (rw [if_neg (by decide +kernel)]; exact ⟨rfl, rfl⟩)
set_option maxRecDepth 100000 in
theorem over : Rows.fnBoundaryCountRow.holds Try.pinned (OpenSpec.ofChange Rows.fnBoundaryCountSpec) :=
  OpenClaim.holds_of_wide 12 Try.f12 rfl rfl rfl rfl rfl rfl rfl ⟨rfl, rfl, rfl, rfl, rfl⟩ rfl rfl rfl rfl rfl named Try.func12 closed inst wrap
    (fun os started H enc _ => lifted os started H enc)

/-- The statement. -/
theorem proved : Rows.FnBoundaryCountSaid := over
end Go.Proofs.Ytemppebemahkoaa.fnBoundaryCount
