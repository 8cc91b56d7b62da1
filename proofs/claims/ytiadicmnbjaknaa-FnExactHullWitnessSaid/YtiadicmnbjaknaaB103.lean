/- impl.HullWitness: its result in own memory, each inner list in a block of its own. -/
import Derived.Test.YtiadicmnbjaknaaB102
import Derived.Test.YtiadicmnbjaknaaB100
set_option linter.unusedVariables false
set_option linter.unusedSimpArgs false
set_option maxHeartbeats 4000000
set_option maxRecDepth 100000
namespace Go.Proofs.Ytiadicmnbjaknaa
open Go Go.Ideal Go.Pl Go.Sort

theorem noSlL_getD : ∀ {es : List IV}, (∀ j, j < es.length → noSl (es.getD j .junk) = true) → noSlL es = true
  | [], _ => rfl
  | e :: es, h => by
    simp only [noSlL, Bool.and_eq_true]
    refine ⟨by have := h 0 (by simp); simpa using this, noSlL_getD fun j hj => ?_⟩
    have := h (j + 1) (by simpa using hj)
    simpa using this
/-- A list of the frame's own that holds no memory of others, read by value. -/
theorem ref_val {F : Fr} {μ κ : Nat → Nat} {s : ISt} {a : Act} {w : World} (R : RepS F μ κ s a w) {id k ty n : Nat} {es : List IV} (hb : lkH s.hp id = some (.arr k ty es)) (hn : n = es.length) (hs : noSlL es = true) {y : Value}
    (hy : RepV (ctx F μ κ s.hp w) (.ref id 0 n true) y) (A' : Nat → Prop) (hA : ¬ A' (μ id)) : RepV (bare A' w) (.sl k es) y := by
  obtain ⟨⟨cur, hheap, h2, h3, h4, h5, h6, h7⟩, hr⟩ := R.own id _ hb
  simp only [RepV] at hy ⊢
  obtain ⟨ao, cp, rfl, han, hx⟩ := hy
  obtain ⟨q1, q2, _, ha⟩ := hx k h4 (by show (lkH s.hp id).map _ = _; rw [hb]; rfl)
  have h3' : κ id ≤ maxLen := h3
  have q2' : 0 + cp ≤ κ id := q2
  refine ⟨ao, n, cp, rfl, hn, q1, by omega, han, h6, fun h0 => ?_⟩
  refine ⟨μ id, 0, ?_, hA, lt_of_own R hb, ?_⟩
  · have := ha (.inl h0); rw [Nat.zero_mul] at this; exact this
  · obtain ⟨xs, hX, hc⟩ := h7.toX
    exact (noSlX_any (ok := fun _ => True) (fun _ _ => .inl rfl) es xs hs (fun _ _ => trivial) hX).toR hc

/-- One witness: a slice in a new block, or nil. -/
theorem wit_step {A : Nat → Prop} {w : World} {vals : List Value} {H : List Pt} {q : Pt} (hm : SmL H) (hq : Sm q) (hA : ∀ b, A b → b < w.heap.size) (hL : RepL (bare A w) [.sl 2 (encPs H), encP q] vals) :
    Calls Try.prog 19 ⟨vals⟩ w fun e w' => ∃ x, e = .returned x ∧ Chg (fun _ => False) w w' ∧ ∃ v b, (∀ c, RepV c v x) ∧ EltN w' v (witP H q) b ∧ (0 < (witP H q).length → w.heap.size ≤ b) := by
  by_cases hf : witP H q = []
  · refine (c_impl_witness_n H q hm hq hf A w vals hA hL).mono ?_
    rintro e w' ⟨x, he, hc, hx⟩
    simp only [RepV] at hx
    exact ⟨x, he, hc, .lsl none 0 0, 0, fun c => by simp only [RepV]; exact hx, .inl ⟨by rw [hf]; rfl, rfl⟩, fun h => by rw [hf] at h; exact absurd h (Nat.lt_irrefl _)⟩
  · have h3 := wit_three hf
    let F : Fr := { A := A, B0 := fun _ => False, w0 := w, N := 0, hAB := fun _ _ h => h, hA := hA, hB := fun _ h => h.elim, μ0 := fun i => i, κ0 := fun i => i, hN := by omega }
    have hle : (bare A w).Le (ctx F (fun i => i) (fun i => i) (sm []) w) (fun _ => True) :=
      ⟨fun _ _ => .inl rfl, fun b _ h => h.elim (fun h => h) (fun ⟨i, h, _⟩ => absurd rfl h), Nat.le_refl _, fun _ _ _ _ => rfl⟩
    have hH : RepH F (fun i => i) (fun i => i) (sm []) F.w0 := ⟨Chg.refl _ _, fun i j hi => absurd rfl hi, fun id blk hb => (by simp [sm, lkH] at hb), fun _ _ _ => ⟨rfl, rfl⟩⟩
    refine (c_impl_witness H q hm hq hf F (fun i => i) (fun i => i) vals hH (RepL.mono hle _ _ (fun _ _ => trivial) hL)).mono ?_
    rintro e w' ⟨x, μ', κ', he, hH', hx⟩
    have hc : Chg (fun _ => False) w w' := hH'.chg
    obtain ⟨⟨cur, q2, q3, q4, _, q5, _, q7⟩, _, hfr⟩ := hH'.own 0 _ rfl
    have q2' : w'.heap[μ' 0]? = some (.cells cur 3 (0, 0)) := q2
    have q3' : cur.size = κ' 0 * 1 := q3
    have q4' : κ' 0 ≤ maxLen := q4
    have q5' : (encI (witP H q)).length ≤ κ' 0 := q5
    rw [len_encI, h3] at q5'
    have q7' : RepR (ctx F μ' κ' (sm [(0, .arr 1 3 (encI (witP H q)))]) w') 1 (μ' 0) 0 (encI (witP H q)) := q7
    simp only [RepV] at hx
    obtain ⟨ao, cp, rfl, _, hx⟩ := hx
    obtain ⟨_, _, r3, r4⟩ := hx 1 (by omega) rfl
    have r3' : 0 + cp = κ' 0 := r3 trivial
    have r4' : ao = some ⟨μ' 0, 0 * 1, none⟩ := r4 (.inr trivial)
    have r5 : cp = κ' 0 := by omega
    refine ⟨_, he, hc, .lsl (some ⟨μ' 0, 0, none⟩) 3 cp, μ' 0, fun c => by simp only [RepV]; rw [r4', Nat.zero_mul], .inr ⟨by omega, cp, cur, by rw [h3], q2', by rw [q3', r5, Nat.mul_one], by rw [r5]; exact q4', by rw [h3, r5]; exact q5', fun p hp => ?_⟩, fun _ => hfr.elim (fun h => h.elim) (fun h => h)⟩
    obtain ⟨y, hy, _, hcell⟩ := q7'.get p (by rw [len_encI]; exact hp)
    rw [getD_encI hp] at hy
    simp only [RepV] at hy
    have hc1 : w'.cell? ⟨μ' 0, 0 + p * 1 + 0, none⟩ = y.cells[0]? := hcell 0 (by omega)
    rw [cell_of_row _ _ _ _ _ _ q2', show 0 + p * 1 + 0 = p by omega, hy] at hc1
    exact hc1

/-- One more slice. -/
theorem Nest.snoc {w : World} {vs : List IV} {i : Nat} {ell : Nat → List Int} {len β : Nat → Nat} (h : Nest w vs i ell len β) {v : IV} {b : Nat} (hl : (ell i).length = len i) (he : EltN w v (ell i) b) (hb : 0 < len i → ¬ NB i len β b) :
    Nest w (vs ++ [v]) (i + 1) ell len (fun j => if j = i then b else β j) := by
  refine ⟨by simp [h.vl], fun j hj => ?_, fun j hj => ?_, fun p q hp hq hp0 hq0 e => ?_⟩
  · by_cases c : j = i
    · rw [c]; exact hl
    · exact h.ln j (by omega)
  · by_cases c : j = i
    · subst c
      rw [if_pos rfl]
      have : (vs ++ [v]).getD j .junk = v := by rw [← h.vl]; simp [List.getD]
      rw [this]; exact he
    · rw [if_neg c]
      have : (vs ++ [v]).getD j .junk = vs.getD j .junk := by
        simp only [List.getD]
        rw [List.getElem?_append_left (by rw [h.vl]; omega)]
      rw [this]; exact h.elt j (by omega)
  · by_cases c : p = i
    · by_cases d : q = i
      · rw [c, d]
      · simp only [c, if_true, if_neg d] at e
        rw [c] at hp0
        exact absurd ⟨q, by omega, hq0, e.symm⟩ (hb hp0)
    · by_cases d : q = i
      · simp only [d, if_true, if_neg c] at e
        rw [d] at hq0
        exact absurd ⟨p, by omega, hp0, e⟩ (hb hq0)
      · simp only [if_neg c, if_neg d] at e
        exact h.inj p q (by omega) (by omega) hp0 hq0 e
theorem NB_snoc {i : Nat} {len β : Nat → Nat} {b x : Nat} (h : NB (i + 1) len (fun j => if j = i then b else β j) x) : NB i len β x ∨ (0 < len i ∧ x = b) := by
  obtain ⟨j, hj, h0, e⟩ := h
  by_cases c : j = i
  · subst c; simp only [if_true] at e; exact .inr ⟨h0, e.symm⟩
  · simp only [if_neg c] at e; exact .inl ⟨j, by omega, h0, e⟩
end Go.Proofs.Ytiadicmnbjaknaa
