/- Slices that are built or made. -/
import Derived.Test.YtodeicbcacggdaaIdH
set_option linter.unusedVariables false
set_option linter.unusedSimpArgs false
namespace Go.Ideal
open Go

section
variable {P : Program} {T : Nat → TD} {F : Fr} {μ κ : Nat → Nat} {s : ISt} {a : Act} {w : World} {ops : List Oper} {o : Oper}

theorem noId'_ok {x : IV} (h : noId' x = true) : noId x := by
  intro id
  cases x <;> simp [noId'] at h <;> simp [IV.ment]
  rename_i l
  induction l with
  | nil => simp [IV.mentL]
  | cons y l ih =>
    have hy := h y (by simp)
    simp only [IV.mentL, Bool.or_eq_false_iff]
    refine ⟨?_, ih (fun z hz => h z (by simp [hz]))⟩
    cases y <;> simp at hy <;> simp [IV.ment]

theorem noIdL_of {l : List IV} (h : ∀ x ∈ l, noId x) : noIdL l := by
  intro id
  induction l with
  | nil => simp [IV.mentL]
  | cons x l ih =>
    simp only [IV.mentL, Bool.or_eq_false_iff]
    exact ⟨h x (by simp) id, ih (fun y hy => h y (by simp [hy]))⟩

theorem noIdL_mem : ∀ {l : List IV}, noIdL l → ∀ x ∈ l, noId x
  | [], _, x, hx => by simp at hx
  | y :: l, h, x, hx => by
    rcases List.mem_cons.1 hx with rfl | hx
    · intro id; have := h id; simp only [IV.mentL, Bool.or_eq_false_iff] at this; exact this.1
    · refine noIdL_mem (l := l) (fun id => ?_) x hx
      have := h id; simp only [IV.mentL, Bool.or_eq_false_iff] at this; exact this.2

theorem eltsI_mem {k : Nat} : ∀ {l : List IV}, eltsI k l → ∀ x ∈ l, eltI k x ∧ noId x
  | [], _, x, hx => by simp at hx
  | y :: l, h, x, hx => by
    simp only [eltsI] at h
    rcases List.mem_cons.1 hx with rfl | hx
    · exact ⟨h.1, noId'_ok h.2.1⟩
    · exact eltsI_mem h.2.2 x hx

theorem fill_parts {c : Ctx} {tm : List (Nat × IV)} {ρ : Operand → Value} {k : Nat} (hρ : ∀ x, gB tm x = true → RepV c (gO tm x) (ρ x)) :
    ∀ (parts : List (Nat × Operand)) (i : Nat) (l : List Value), (partsL tm i parts).2 → eltsI k (partsL tm i parts).1 → l.length = (i + parts.length) * k →
    ∃ xs, RepX c k (partsL tm i parts).1 xs ∧ Instr.fill (fun i => some (i * k, k)) ⟨l⟩ (parts.map fun p => (p.1, ρ p.2)) = some ⟨l.take (i * k) ++ xs⟩
  | [], i, l, _, _, hl => by
    refine ⟨[], by simp [partsL, RepX], ?_⟩
    simp only [List.map_nil, Instr.fill, List.append_nil]
    rw [List.take_of_length_le (by simp at hl; omega)]
  | (j, x) :: parts, i, l, hp, he, hl => by
    simp only [partsL] at hp he ⊢
    obtain ⟨rfl, hb, hr⟩ := hp
    simp only [eltsI] at he
    have hv := hρ x hb
    have hk := eltI_ok hv he.1
    have hlen := eltOk_cells hk
    have hl' : l.length = j * k + k + parts.length * k := by rw [hl]; simp [Nat.add_mul]; omega
    obtain ⟨xs, hX, hf⟩ := fill_parts hρ parts (j + 1) (overV l (j * k) (ρ x).cells.toList) hr he.2.2 (by
      simp only [overV, List.length_append, List.length_take, List.length_drop, hlen, Nat.add_mul]; omega)
    refine ⟨(ρ x).cells.toList ++ xs, ⟨_, _, rfl, hv, hk, hX⟩, ?_⟩
    simp only [List.map_cons, Instr.fill]
    have hsz : (ρ x).cells.size = k := by simpa using hlen
    rw [if_neg (by simp only [List.size_toArray, ne_eq, Bool.or_eq_true, decide_eq_true_eq, not_or, bne_iff_ne]; exact ⟨by simpa using hsz, by omega⟩)]
    have hfold : ((ρ x).cells.zipIdx.foldl (fun (cs : Array Value) (p : Value × Nat) => cs.setIfInBounds (j * k + p.2) p.1) ⟨l⟩) = ⟨overV l (j * k) (ρ x).cells.toList⟩ := by
      have := fold_over (ρ x).cells.toList 0 (j * k) l (by rw [hlen]; omega)
      rw [← Array.foldl_toList]
      simpa using this
    refine Eq.trans (congrArg (fun A => Instr.fill (fun i => some (i * k, k)) A (parts.map fun p => (p.1, ρ p.2))) hfold) ?_
    rw [hf]
    congr 2
    have e : (overV l (j * k) (ρ x).cells.toList).take ((j + 1) * k) = l.take (j * k) ++ (ρ x).cells.toList := by
      unfold overV
      rw [List.take_append_of_le_length (by simp [hlen, Nat.add_mul]; omega), List.take_of_length_le (by simp [hlen, Nat.add_mul]; omega)]
    rw [e]
    simp

theorem partsL_ment {d : Nat} {tm : List (Nat × IV)} (h : ∀ x, (gO tm x).ment d = false) : ∀ (parts : List (Nat × Operand)) (i : Nat), IV.mentL d (partsL tm i parts).1 = false
  | [], i => by simp [partsL, IV.mentL]
  | (j, x) :: parts, i => by simp [partsL, IV.mentL, h x, partsL_ment h parts (i + 1)]

theorem partsL_length {tm : List (Nat × IV)} : ∀ (parts : List (Nat × Operand)) (i : Nat), (partsL tm i parts).1.length = parts.length
  | [], i => by simp [partsL]
  | (j, x) :: parts, i => by simp [partsL, partsL_length parts (i + 1)]

theorem effBuildSlice_sound (hT : TOK P T) {t : TypeId} {n : Nat} {parts : Array (Nat × Operand)} (ho : o.op = .buildSlice t n parts) (hob : (effBuildSlice T F.N ops o t n parts.toList s).ob) :
    StepOK P F ops o s (effBuildSlice T F.N ops o t n parts.toList s) := by
  refine effNew_sound hob ?_
  rintro d hd hG ⟨hon, he, hoe, hn, hbig, hp, helts⟩ μ κ a w R hm1 hm2
  have hu := (hT t hon).slice he
  obtain ⟨i, z, hi, hsz, _, hz, helt, hfree⟩ := (hT _ hoe).info
  have hk1 : 1 ≤ (T (T t).elem).size := (hT _ hoe).pos
  generalize hk : (T (T t).elem).size = k at *
  let l0 : Array Value := (Array.range (n * k)).map fun x => (if n * k = 0 then #[] else z.cells)[x % (if n * k = 0 then #[] else z.cells).size]!
  obtain ⟨xs, hX, hf⟩ := fill_parts (c := ctx F μ κ s.hp w) (ρ := a.eval) (k := k) (fun x hb => gO_rep R hb) parts.toList 0 l0.toList hp helts (by simp [l0, hn])
  have hlen := hX.length
  rw [partsL_length] at hlen
  have hpl : (partsL s.tm 0 parts.toList).1.length = n := by rw [partsL_length, hn]
  refine ⟨.slice (some ⟨w.heap.size, 0, none⟩) n n, .cells ⟨xs⟩ (T t).elem, w, n, ?_, Chg.refl _ _, rfl, ?_, ?_⟩
  · have hsk : ∀ w, (sizeOf (T t).elem).run P w = .ok k w := fun w => by rw [← hk]; exact (hT _ hoe).size w
    have hf' : Instr.fill (fun i => some (i * k, k)) l0 (parts.map fun p => (p.1, a.eval p.2)).toList = some ⟨xs⟩ := by
      have e : (parts.map fun p => (p.1, a.eval p.2)).toList = parts.toList.map fun p => (p.1, a.eval p.2) := by simp
      rw [e]
      have e2 : (⟨l0.toList⟩ : Array Value) = l0 := by simp
      rw [e2] at hf
      simpa using hf
    have hb : ¬ (n * k > 2 ^ 24) := by omega
    by_cases hz0 : n * k = 0
    · simp only [l0, hz0, if_true] at hf'
      have hb0 : ¬ ((0 : Nat) > 2 ^ 24) := by decide
      simp only [execOp, ho, Instr.buildSlice, Sem.run_bind, run_underlying hu, Result.andThen_ok, hsk, hb0, if_false, hz0, if_true, Sem.run_pure, hf', newRow, run_newObj]
      rfl
    · simp only [l0, hz0, if_false] at hf'
      simp only [execOp, ho, Instr.buildSlice, Sem.run_bind, run_underlying hu, Result.andThen_ok, hsk, hb, if_false, hz0, zeroValue, typeInfo, run_program, hi, hz, Sem.run_pure, hf', newRow, run_newObj]
      rfl
  · intro c hle hμ hκ hw
    have hno : noIdL (partsL s.tm 0 parts.toList).1 := noIdL_of fun x hx => (eltsI_mem helts x hx).2
    refine ⟨⟨xs⟩, by rw [hw, hμ]; exact heap_alloc_at w _, by rw [hκ]; simp [hlen, hn], by rw [hκ]; have : n ≤ n * k := Nat.le_mul_of_pos_right _ hk1; unfold maxLen; omega, hk1, by rw [hκ, hpl]; exact Nat.le_refl _, hno, ?_⟩
    refine (hX.mono hle (fun id h => ?_)).toR (fun j u hu' => ?_)
    · rintro rfl
      rw [partsL_ment (gO_ment hm1)] at h
      cases h
    · rw [hw, hμ, Nat.zero_add, cell_of_row _ _ _ _ _ _ (heap_alloc_at w _)]
      simpa using hu'
  · intro c hle hμ hκ hs
    simp only [RepV]
    refine ⟨_, n, rfl, by simp, fun k' hk' hs' => ⟨Nat.le_refl _, by rw [hκ]; omega, fun _ => by rw [hκ]; omega, fun _ => by rw [hμ]; simp⟩⟩

theorem madeCells_get {zc : Array Value} {n q : Nat} (hq : q < n) (hz : 0 < zc.size) : (madeCells zc n)[q]? = zc[q % zc.size]? := by
  unfold madeCells
  have hlt : q % zc.size < zc.size := Nat.mod_lt _ hz
  rw [Array.getElem?_map]
  have : (Array.range n)[q]? = some q := by
    rw [Array.getElem?_eq_getElem (by simpa using hq)]
    simp
  rw [this]
  simp [hlt]

theorem zeroElt_rep {c : Ctx} {d : TD} {z : Value} (he : EltOk d.size z) (hf : freeOK d.zero z.cells.toList) : RepV c (zeroElt d) z := by
  have hL := hf c
  unfold zeroElt
  obtain ⟨h1, h2, h3, h4⟩ := he
  by_cases hs : 2 ≤ d.size
  · rw [if_pos hs]
    cases z with
    | agg cs => simp only [RepV]; exact ⟨cs.toList, by simp, by simpa [Value.cells] using hL⟩
    | _ => simp [isAggV, hs] at h3
  · rw [if_neg hs]
    have hz : z.cells = #[z] := by
      cases z with
      | agg cs => simp [isAggV, hs] at h3
      | _ => rfl
    rw [hz] at hL
    cases hzz : d.zero with
    | nil => rw [hzz] at hL; simp [RepL] at hL
    | cons x l =>
      rw [hzz] at hL
      simp only [RepL] at hL
      obtain ⟨v, r, hv, hx, _⟩ := hL
      simp only [List.cons.injEq] at hv
      simp only [List.headD_cons]
      rw [hv.1]
      exact hx

theorem RepR_replicate {c : Ctx} {k b : Nat} {e : IV} {x : Value} (hx : RepV c e x) (hk : EltOk k x) : ∀ (n m : Nat),
    (∀ q, q < (m + n) * k → c.w.cell? ⟨b, q, none⟩ = x.cells[q % k]?) → RepR c k b (m * k) (List.replicate n e)
  | 0, m, _ => by simp [RepR]
  | n + 1, m, h => by
    have hk1 := hk.2.2.2
    simp only [List.replicate_succ, RepR]
    refine ⟨⟨x, hx, hk, fun j hj => ?_⟩, ?_⟩
    · rw [h (m * k + j) (by rw [Nat.add_mul, Nat.add_mul]; omega)]
      congr 1
      rw [Nat.mul_comm, Nat.mul_add_mod]
      exact Nat.mod_eq_of_lt hj
    · have := RepR_replicate hx hk n (m + 1) (fun q hq => h q (by rw [show m + (n + 1) = m + 1 + n by omega]; exact hq))
      rwa [Nat.add_mul, Nat.one_mul] at this

theorem effMake_sound (hT : TOK P T) {t : TypeId} {l c : Operand} (ho : o.op = .makeSlice t l c) (hob : (effMake T F.N ops o t l c s).ob) :
    StepOK P F ops o s (effMake T F.N ops o t l c s) := by
  unfold effMake at hob ⊢
  split at hob
  · rename_i kL L kC C eL eC
    refine effNew_sound hob ?_
    rintro d hd hG ⟨hon, he, hoe, hbl, hbc, h0, hLC, hby, hC, hno⟩ μ κ a w R hm1 hm2
    have hu := (hT t hon).slice he
    obtain ⟨i, z, hi, hsz, hbytes, hz, helt, hfree⟩ := (hT _ hoe).info
    have hk1 : 1 ≤ (T (T t).elem).size := (hT _ hoe).pos
    have hl := gO_rep R hbl
    have hc := gO_rep R hbc
    rw [eL] at hl
    rw [eC] at hc
    simp only [RepV] at hl hc
    have hrun := run_make (P := P) w t (T t).elem i z hu hi hz kL kC L C h0 hLC (by rw [hbytes, Int.mul_comm]; omega) (by omega)
    have hzs : z.cells.size = (T (T t).elem).size := helt.1
    refine ⟨.slice (some ⟨w.heap.size, 0, none⟩) L.toNat C.toNat, .cells (madeCells z.cells (C.toNat * i.size)) (T t).elem, w, C.toNat, ?_, Chg.refl _ _, rfl, ?_, ?_⟩
    · simp only [execOp, ho, hl, hc, Sem.run_bind, hrun, Result.andThen_ok, Sem.run_pure]
    · intro c' hle hμ hκ hw
      have hheap : c'.w.heap[c'.μ d]? = some (.cells (madeCells z.cells (C.toNat * i.size)) (T t).elem (0, 0)) := by rw [hw, hμ]; exact heap_alloc_at w _
      refine ⟨_, hheap, by rw [hκ, size_madeCells, hsz], by rw [hκ]; unfold maxLen; omega, hk1, by rw [hκ]; simp; omega, ?_, ?_⟩
      · exact noIdL_of fun x hx => by rw [List.eq_of_mem_replicate hx]; exact noId'_ok hno
      · have hzr : RepV c' (zeroElt (T (T t).elem)) z := zeroElt_rep helt hfree
        have := RepR_replicate (b := c'.μ d) hzr helt L.toNat 0 (fun q hq => by
          rw [cell_of_row _ _ _ _ _ _ hheap, ← hzs]
          refine madeCells_get ?_ (by omega)
          rw [hsz]
          exact Nat.lt_of_lt_of_le hq (Nat.mul_le_mul_right _ (by omega)))
        simpa using this
    · intro c' hle hμ hκ hs
      simp only [RepV]
      refine ⟨_, _, rfl, by simp, fun k' hk' hs' => ⟨by omega, by rw [hκ]; omega, fun _ => by rw [hκ]; omega, fun _ => by rw [hμ]; simp⟩⟩
  · exact hob.elim

end
end Go.Ideal
