/- Lists of lists in own memory: each inner list that is not empty lies in a block of its own; laws.markIntSS writes into them. -/
import Derived.Test.YtiadicmnbjaknaaBMk
import Derived.Test.YtiadicmnbjaknaaCf
set_option linter.unusedVariables false
set_option linter.unusedSimpArgs false
set_option maxHeartbeats 4000000
set_option maxRecDepth 100000
namespace Go.Proofs.Ytiadicmnbjaknaa
open Go Go.Ideal Go.Pl Go.Sort

/-- A slice that stands for l: no memory, or the block b alone. -/
def EltN (w : World) (v : IV) (l : List Int) (b : Nat) : Prop :=
  (l.length = 0 ∧ v = .lsl none 0 0) ∨
  (0 < l.length ∧ ∃ cp cur, v = .lsl (some ⟨b, 0, none⟩) l.length cp ∧ w.heap[b]? = some (.cells cur 3 (0, 0)) ∧ cur.size = cp ∧ cp ≤ maxLen ∧ l.length ≤ cp ∧ ∀ j, j < l.length → cur[j]? = some (.int .i64 (l.getD j 0)))
def NB (n : Nat) (len β : Nat → Nat) (b : Nat) : Prop := ∃ j, j < n ∧ 0 < len j ∧ β j = b
/-- n slices stand for the lists of ell, each in a block of its own. -/
structure Nest (w : World) (vs : List IV) (n : Nat) (ell : Nat → List Int) (len β : Nat → Nat) : Prop where
  vl : vs.length = n
  ln : ∀ j, j < n → (ell j).length = len j
  elt : ∀ j, j < n → EltN w (vs.getD j .junk) (ell j) (β j)
  inj : ∀ i j, i < n → j < n → 0 < len i → 0 < len j → β i = β j → i = j

theorem EltN.mono {w w' : World} {v : IV} {l : List Int} {b : Nat} (h : EltN w v l b) (hb : 0 < l.length → w'.heap[b]? = w.heap[b]?) : EltN w' v l b := by
  rcases h with h | ⟨h0, cp, cur, h1, h2, h3⟩
  · exact .inl h
  · exact .inr ⟨h0, cp, cur, h1, (hb h0).trans h2, h3⟩
theorem EltN.form {w : World} {v : IV} {l : List Int} {b : Nat} (h : EltN w v l b) : ∃ a cp, v = .lsl a l.length cp := by
  rcases h with ⟨h0, h⟩ | ⟨h0, cp, cur, h1, _⟩
  · exact ⟨none, 0, by rw [h0]; exact h⟩
  · exact ⟨_, cp, h1⟩
theorem Nest.lt {w : World} {vs : List IV} {n : Nat} {ell : Nat → List Int} {len β : Nat → Nat} (h : Nest w vs n ell len β) {b : Nat} (hb : NB n len β b) : b < w.heap.size := by
  obtain ⟨j, hj, h0, rfl⟩ := hb
  rcases h.elt j hj with ⟨h1, _⟩ | ⟨_, cp, cur, _, h2, _⟩
  · rw [h.ln j hj] at h1; omega
  · exact (Array.getElem?_eq_some_iff.1 h2).1
theorem Nest.mono {w w' : World} {vs : List IV} {n : Nat} {ell : Nat → List Int} {len β : Nat → Nat} (h : Nest w vs n ell len β) (hb : ∀ b, NB n len β b → w'.heap[b]? = w.heap[b]?) : Nest w' vs n ell len β :=
  ⟨h.vl, h.ln, fun j hj => (h.elt j hj).mono (fun h0 => hb _ ⟨j, hj, by rw [← h.ln j hj]; exact h0, rfl⟩), h.inj⟩
theorem Nest.chg {w w' : World} {vs : List IV} {n : Nat} {ell : Nat → List Int} {len β : Nat → Nat} (h : Nest w vs n ell len β) {B : Nat → Prop} (hc : Chg B w w') (hB : ∀ b, NB n len β b → ¬ B b) : Nest w' vs n ell len β :=
  h.mono fun b hb => hc.block b (h.lt hb) (hB b hb)

/-- A slice of the nest, read by value. -/
theorem EltN.val {c : Ctx} {v : IV} {l : List Int} {b : Nat} {x : Value} (h : EltN c.w v l b) (hx : RepV c v x) (hb : 0 < l.length → ¬ c.av b) : RepV c (.sl 1 (encI l)) x := by
  rcases h with ⟨h0, rfl⟩ | ⟨h0, cp, cur, rfl, h2, h3, h4, h5, h6⟩
  · simp only [RepV] at hx ⊢
    have : l = [] := List.length_eq_zero_iff.1 h0
    subst this
    exact ⟨_, _, _, hx, rfl, Nat.le_refl _, by rw [maxLen_eq]; omega, fun _ => rfl, fun id => rfl, fun h => absurd h (Nat.lt_irrefl _)⟩
  · simp only [RepV] at hx ⊢
    refine ⟨_, _, _, hx, (len_encI l).symm, h5, h4, (fun h => by cases h), fun id => noIdL_of (fun y hy => ?_) id, fun _ => ⟨b, 0, rfl, hb h0, (Array.getElem?_eq_some_iff.1 h2).1, RepR_of fun i hi => ?_⟩⟩
    · simp only [encI, List.mem_map] at hy
      obtain ⟨z, _, rfl⟩ := hy
      intro id; rfl
    · rw [len_encI] at hi
      refine ⟨.int .i64 (l.getD i 0), ?_, ⟨rfl, by simp [Value.cells, Value.oneCell'], rfl, Nat.le_refl _⟩, fun j hj => ?_⟩
      · rw [getD_encI hi]; simp [RepV]
      · have : j = 0 := by omega
        subst this
        rw [cell_of_row _ _ _ _ _ _ h2, show 0 + i * 1 + 0 = i by omega, h6 i hi]
        rfl

theorem Nest.val {c : Ctx} {vs : List IV} {n : Nat} {ell : Nat → List Int} {len β : Nat → Nat} {L : List (List Int)} {x : Value} (h : Nest c.w vs n ell len β) (hn : L.length = n) (hL : ∀ j, j < n → ell j = wAt L j)
    (hx : RepV c (.sl 1 vs) x) (hb : ∀ b, NB n len β b → ¬ c.av b) : RepV c (.sl 1 (encLI L)) x := by
  simp only [RepV] at hx ⊢
  obtain ⟨a, m, cp, hv, hm, hc, hcp, han, hno, hr⟩ := hx
  refine ⟨a, m, cp, hv, by rw [len_encLI, hn, ← h.vl]; exact hm, hc, hcp, han, fun id => noIdL_of (fun y hy => ?_) id, fun h0 => ?_⟩
  · simp only [encLI, List.mem_map] at hy
    obtain ⟨z, _, rfl⟩ := hy
    intro id; rfl
  · obtain ⟨b, o, ha, hav, hlt, hR⟩ := hr h0
    refine ⟨b, o, ha, hav, hlt, RepR_of fun i hi => ?_⟩
    rw [len_encLI] at hi
    obtain ⟨y, hy, hk, hcell⟩ := hR.get i (by rw [h.vl]; omega)
    refine ⟨y, ?_, hk, hcell⟩
    rw [getD_encLI hi]
    have he := h.elt i (by omega)
    rw [hL i (by omega)] at he
    exact he.val hy (fun h0 => hb _ ⟨i, by omega, by rw [← h.ln i (by omega), hL i (by omega)]; exact h0, rfl⟩)

/-- One slice of the nest is marked. -/
theorem mark_step {w : World} {vs : List IV} {n : Nat} {ell : Nat → List Int} {len β : Nat → Nat} (h : Nest w vs n ell len β) {i : Nat} (hi : i < n) {k : Int} (hl : len i ≤ 2000000) (h0 : 0 ≤ k) (h1 : k ≤ 2000000)
    {c : Ctx} {u : Value} (hu : RepV c (vs.getD i .junk) u) :
    Calls Try.prog 22 ⟨[u, .int .i64 k]⟩ w fun e w' => ∃ x, e = .returned x ∧ x = .int .i64 (k + (len i : Int)) ∧ Chg (NB n len β) w w' ∧ Nest w' vs n (fun j => if j = i then marksI (len i) k else ell j) len β := by
  have hli := h.ln i hi
  rcases h.elt i hi with ⟨hz, hv⟩ | ⟨hz, cp, cur, hv, h2, h3, h4, h5, h6⟩
  · rw [hv] at hu
    simp only [RepV] at hu
    subst hu
    have hlz : len i = 0 := by omega
    let F : Fr := { A := fun _ => False, B0 := fun _ => False, w0 := w, N := 0, hAB := fun _ h => h.elim, hA := fun _ h => h.elim, hB := fun _ h => h.elim, μ0 := fun i => i, κ0 := fun i => i, hN := by omega }
    have hargs : RepL (ctx F (fun i => i) (fun i => i) [] F.w0) [.sl 1 [], .num .i64 k] [.slice none 0 0, .int .i64 k] := by
      simp only [RepL, RepV]
      exact ⟨_, _, rfl, ⟨none, 0, 0, rfl, rfl, Nat.le_refl _, by rw [maxLen_eq]; omega, fun _ => rfl, fun _ => rfl, fun h => absurd h (Nat.lt_irrefl _)⟩, _, _, rfl, rfl, rfl⟩
    have hH : RepH F (fun i => i) (fun i => i) [] F.w0 := ⟨Chg.refl _ _, fun i j hi => absurd rfl hi, fun id blk hb => (by simp [lkH] at hb), fun _ _ _ => ⟨rfl, rfl⟩⟩
    refine (c_laws_markIntS_n k F (fun i => i) (fun i => i) _ hH hargs).mono ?_
    rintro e w' ⟨x, μ', κ', he, hH', hx⟩
    simp only [RepV] at hx
    have hc : Chg (fun _ => False) w w' := hH'.chg
    refine ⟨x, he, by rw [hx, hlz]; simp, hc.mono (fun _ _ h => h.elim), ?_⟩
    have hN := h.chg hc (fun _ _ h => h)
    refine ⟨hN.vl, fun j hj => ?_, fun j hj => ?_, hN.inj⟩
    · split
      · rename_i e; rw [e, marksI_len]
      · exact hN.ln j hj
    · split
      · rename_i e
        subst e
        exact .inl ⟨by rw [marksI_len]; exact hlz, hv⟩
      · exact hN.elt j hj
  · rw [hv] at hu
    simp only [RepV] at hu
    subst hu
    have hb : NB n len β (β i) := ⟨i, hi, by omega, rfl⟩
    have hlt := h.lt hb
    let F : Fr := { A := fun _ => False, B0 := fun b => b = β i, w0 := w, N := 0, hAB := fun _ h => h.elim, hA := fun _ h => h.elim, hB := fun b h => by rw [h]; exact hlt, μ0 := fun _ => β i, κ0 := fun _ => cp, hN := by omega }
    have hlk : ∀ id blk, lkH (sm [(1000, .arr 1 3 (encI (ell i)))]) id = some blk → id = 1000 ∧ blk = .arr 1 3 (encI (ell i)) := by
      intro id blk hb
      simp only [sm, lkH] at hb
      split at hb
      · rename_i e; exact ⟨e.symm, by injection hb with hb; exact hb.symm⟩
      · cases hb
    have hlk' : ∀ id, lkH (sm [(1000, .arr 1 3 (encI (ell i)))]) id ≠ none → id = 1000 := by
      intro id hb
      cases e : lkH (sm [(1000, .arr 1 3 (encI (ell i)))]) id with
      | none => exact absurd e hb
      | some blk => exact (hlk id blk e).1
    have hnoid : noIdL (encI (ell i)) := noIdL_of fun y hy => by
      simp only [encI, List.mem_map] at hy
      obtain ⟨z, _, rfl⟩ := hy
      intro id; rfl
    have hH : RepH F (fun _ => β i) (fun _ => cp) (sm [(1000, .arr 1 3 (encI (ell i)))]) F.w0 := by
      refine ⟨Chg.refl _ _, fun p q hp hq _ => (hlk' p hp).trans (hlk' q hq).symm, fun id blk hb => ?_, fun _ _ _ => ⟨rfl, rfl⟩⟩
      obtain ⟨rfl, rfl⟩ := hlk id blk hb
      refine ⟨⟨cur, h2, by rw [h3]; exact (Nat.mul_one _).symm, h4, Nat.le_refl _, by rw [len_encI]; exact h5, hnoid, RepR_of fun j hj => ?_⟩, fun h => h, .inl rfl⟩
      rw [len_encI] at hj
      refine ⟨.int .i64 ((ell i).getD j 0), ?_, ⟨rfl, by simp [Value.cells, Value.oneCell'], rfl, Nat.le_refl _⟩, fun q hq => ?_⟩
      · rw [getD_encI hj]; simp [RepV]
      · have : q = 0 := by omega
        subst this
        show w.cell? ⟨β i, _, none⟩ = _
        rw [cell_of_row _ _ _ _ _ _ h2, show 0 + j * 1 + 0 = j by omega, h6 j hj]
        rfl
    have hargs : RepL (ctx F (fun _ => β i) (fun _ => cp) (sm [(1000, .arr 1 3 (encI (ell i)))]) F.w0) [.ref 1000 0 (ell i).length true, .num .i64 k] [.slice (some ⟨β i, 0, none⟩) (ell i).length cp, .int .i64 k] := by
      simp only [RepL, RepV]
      exact ⟨_, _, rfl, ⟨_, cp, rfl, (fun h => by cases h), fun k' _ _ => ⟨h5, by show 0 + cp ≤ cp; omega, fun _ => by show 0 + cp = cp; omega, fun _ => by rw [Nat.zero_mul]; rfl⟩⟩, _, _, rfl, rfl, rfl⟩
    refine (c_laws_markIntS (ell i) k true (by omega) h0 h1 F (fun _ => β i) (fun _ => cp) _ hH hargs).mono ?_
    rintro e w' ⟨x, μ', κ', he, hH', hx⟩
    simp only [RepV] at hx
    have hc : Chg (fun b => b = β i) w w' := hH'.chg
    obtain ⟨hμ, hκ⟩ := hH'.pin 1000 (by omega) (by omega)
    have hμ' : μ' 1000 = β i := hμ
    have hκ' : κ' 1000 = cp := hκ
    obtain ⟨⟨cur', q2, q3, q4, _, q5, _, q7⟩, _⟩ := hH'.own 1000 _ rfl
    have q2' : w'.heap[μ' 1000]? = some (.cells cur' 3 (0, 0)) := q2
    rw [hμ'] at q2'
    have q3' : cur'.size = κ' 1000 * 1 := q3
    rw [hκ', Nat.mul_one] at q3'
    have q7' : RepR (ctx F μ' κ' (sm [(1000, .arr 1 3 (encI (marksI (ell i).length k)))]) w') 1 (μ' 1000) 0 (encI (marksI (ell i).length k)) := q7
    rw [hμ'] at q7'
    refine ⟨x, he, by rw [hx, hli], hc.mono (fun b _ e => by rw [e]; exact hb), ?_⟩
    refine ⟨h.vl, fun j hj => ?_, fun j hj => ?_, h.inj⟩
    · split
      · rename_i e; rw [e, marksI_len]
      · exact h.ln j hj
    · split
      · rename_i e
        subst e
        refine .inr ⟨by rw [marksI_len]; omega, cp, cur', by rw [hv, marksI_len, hli], q2', q3', h4, by rw [marksI_len]; omega, fun p hp => ?_⟩
        rw [marksI_len] at hp
        obtain ⟨y, hy, _, hcell⟩ := q7'.get p (by rw [len_encI, marksI_len]; omega)
        rw [getD_encI (by rw [marksI_len]; omega)] at hy
        simp only [RepV] at hy
        have hc0 := hcell 0 (by omega)
        have hc1 : w'.cell? ⟨β j, 0 + p * 1 + 0, none⟩ = y.cells[0]? := hc0
        rw [cell_of_row _ _ _ _ _ _ q2', show 0 + p * 1 + 0 = p by omega, hy, hli] at hc1
        exact hc1
      · rename_i e
        refine (h.elt j hj).mono fun h0' => hc.block _ ?_ ?_
        · exact h.lt ⟨j, hj, by rw [← h.ln j hj]; exact h0', rfl⟩
        · intro e2
          exact e (h.inj j i hj hi (by rw [← h.ln j hj]; exact h0') (by omega) e2)
end Go.Proofs.Ytiadicmnbjaknaa
