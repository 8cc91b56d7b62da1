/- A sort whose comparison has captured variables that hold values. -/
import Derived.Test.YtemppebemahkoaaCc
set_option linter.unusedVariables false
set_option linter.unusedSimpArgs false
namespace Go.Ideal
open Go

/-- A value of one cell that names no block. -/
def plainB : IV → Bool
  | .sl _ _ => true
  | .num _ _ => true
  | .bool _ => true
  | _ => false
theorem plain_cell {c : Ctx} {x : IV} {v : Value} (hp : plainB x = true) (h : RepV c x v) : EltOk 1 v ∧ noId x := by
  cases x with
  | sl k es =>
    simp only [RepV] at h
    obtain ⟨a, n, cp, rfl, _⟩ := h
    exact ⟨⟨rfl, by simp [Value.cells, Value.oneCell'], rfl, Nat.le_refl _⟩, fun id => rfl⟩
  | num k n =>
    simp only [RepV] at h; subst h
    exact ⟨⟨rfl, by simp [Value.cells, Value.oneCell'], rfl, Nat.le_refl _⟩, fun id => rfl⟩
  | bool b =>
    simp only [RepV] at h; subst h
    exact ⟨⟨rfl, by simp [Value.cells, Value.oneCell'], rfl, Nat.le_refl _⟩, fun id => rfl⟩
  | _ => simp [plainB] at hp

abbrev Bx := Nat × TypeId × IV
def bxH (B : List Bx) : List (Nat × IBlk) := B.map fun b => (b.1, .box b.2.1 [b.2.2])
def bxP (B : List Bx) : List IV := B.map fun b => .ptr b.1 0
def bxE (B : List Bx) : List IV := B.map fun b => .eptr 1 b.2.2 0
theorem bx_lk : ∀ {B : List Bx} {i : Nat} {b : IBlk}, lkH (sm (bxH B)) i = some b → ∃ t x, (i, t, x) ∈ B ∧ b = .box t [x]
  | [], i, b, h => by simp [bxH, sm, lkH] at h
  | (j, t, x) :: B, i, b, h => by
    simp only [bxH, List.map_cons, sm, lkH] at h
    by_cases e : j = i
    · rw [if_pos e] at h
      injection h with h
      exact ⟨t, x, by simp [e], h.symm⟩
    · rw [if_neg e] at h
      obtain ⟨t', x', h1, h2⟩ := bx_lk (B := B) h
      exact ⟨t', x', List.mem_cons_of_mem _ h1, h2⟩
theorem bx_mem : ∀ {B : List Bx} {i : Nat} {t : TypeId} {x : IV}, (B.map fun b => b.1).Nodup → (i, t, x) ∈ B → lkH (sm (bxH B)) i = some (.box t [x])
  | (j, t', x') :: B, i, t, x, hn, h => by
    simp only [bxH, List.map_cons, sm, lkH]
    simp only [List.map_cons, List.nodup_cons] at hn
    rcases List.mem_cons.1 h with h | h
    · injection h with h1 h2
      injection h2 with h2 h3
      subst h1 h2 h3
      rw [if_pos rfl]
    · have : j ≠ i := by
        rintro rfl
        exact hn.1 (List.mem_map.2 ⟨_, h, rfl⟩)
      rw [if_neg this]
      exact bx_mem (B := B) hn.2 h

theorem bx_args {c c' : Ctx} {B : List Bx} (hB : ∀ b ∈ B, c.sh b.1 = some 0 ∧ ∃ v, c.w.heap[c.μ b.1]? = some (.cells ⟨[v]⟩ b.2.1 (0, 0)) ∧ RepV c' b.2.2 v ∧ plainB b.2.2 = true ∧ ¬ c'.av (c.μ b.1)) (hw : c'.w = c.w) :
    ∀ {cs : List Value}, RepL c (bxP B) cs → RepL c' (bxE B) cs := by
  induction B with
  | nil => intro cs h; simpa [bxP, bxE, RepL] using h
  | cons b B ih =>
    intro cs h
    simp only [bxP, List.map_cons, RepL, RepV] at h
    obtain ⟨v, r, rfl, ⟨a, rfl, ha⟩, hr⟩ := h
    obtain ⟨h1, v, h2, h3, h4, h5⟩ := hB b (by simp)
    have ea := ha h1
    subst ea
    simp only [bxE, List.map_cons, RepL, RepV]
    obtain ⟨p1, p2⟩ := plain_cell h4 h3
    refine ⟨_, r, rfl, ⟨c.μ b.1, 0, v, rfl, h5, ?_, p2, h3, p1, fun j hj => ?_⟩, ih (fun b hb => hB b (List.mem_cons_of_mem _ hb)) hr⟩
    · rw [hw]; exact (Array.getElem?_eq_some_iff.1 h2).1
    · have : j = 0 := by omega
      subst this
      rw [hw]
      have hv : v.cells = #[v] := by
        cases hx : b.2.2 with
        | sl k es => rw [hx] at h3; simp only [RepV] at h3; obtain ⟨a, n, cp, rfl, _⟩ := h3; rfl
        | num k n => rw [hx] at h3; simp only [RepV] at h3; subst h3; rfl
        | bool k => rw [hx] at h3; simp only [RepV] at h3; subst h3; rfl
        | _ => rw [hx] at h4; simp [plainB] at h4
      rw [hv]
      simp [World.cell?, h2]

/-- A row is sorted by a comparison that reads captured variables: as pure values, then as variables. -/
theorem sort_lend {P : Program} {fn g : FuncId} {k : Nat} {ty : TypeId} {row row' : List IV} {off n : Nat} {full : Bool} (B : List Bx)
    (h : HCall P fn [.ref 1000 off n full, .clo g (bxE B)] [(1000, some (.arr k ty row))] (.tup []) [(1000, some (.arr k ty row'))])
    (hnd : (B.map fun b => b.1).Nodup) (hin : ∀ b ∈ B, 1000 < b.1 ∧ b.1 < 2000 ∧ plainB b.2.2 = true) (hf : noSlL row = true) (hf' : noSlL row' = true) :
    HCall P fn [.ref 1000 off n full, .clo g (bxP B)] (sm ((1000, .arr k ty row) :: bxH B)) (.tup []) (sm ((1000, .arr k ty row') :: bxH B)) := by
  intro F μ κ vs RH hL
  obtain ⟨hR0, hA0, hB0⟩ := RH.own 1000 _ (by simp [sm, lkH]; rfl)
  have hbx : ∀ b ∈ B, lkH (sm ((1000, IBlk.arr k ty row) :: bxH B)) b.1 = some (.box b.2.1 [b.2.2]) := fun b hb => by
    simp only [sm, lkH]
    rw [if_neg (by have := (hin b hb).1; omega)]
    exact bx_mem hnd hb
  have hne : ∀ b ∈ B, μ b.1 ≠ μ 1000 := fun b hb e => by
    have := RH.inj b.1 1000 (by rw [hbx b hb]; simp) (by simp [sm, lkH]) e
    have := (hin b hb).1; omega
  let F' : Fr := { A := F.A, B0 := fun b => F.B0 b ∧ b = μ 1000, w0 := F.w0, N := F.N, hAB := fun b ha hb => F.hAB b ha hb.1, hA := F.hA, hB := fun b hb => F.hB b hb.1, μ0 := F.μ0, κ0 := F.κ0, hN := F.hN }
  have hlt : μ 1000 < F.w0.heap.size := RH.lt (id := 1000) (b := .arr k ty row) (by simp [sm, lkH])
  have hav : ∀ b, avOf F' μ [(1000, some (IBlk.arr k ty row))] b → avOf F μ (sm ((1000, .arr k ty row) :: bxH B)) b := by
    rintro b (h | ⟨i, hi, rfl⟩)
    · exact .inl h
    · rw [lk1] at hi
      split at hi
      · rename_i e; subst e; exact .inr ⟨1000, by simp [sm, lkH], rfl⟩
      · simp at hi
  have hnav : ∀ b ∈ B, ¬ avOf F' μ [(1000, some (IBlk.arr k ty row))] (μ b.1) := by
    rintro b hb (h | ⟨i, hi, e⟩)
    · exact (RH.own b.1 _ (hbx b hb)).2.1 h
    · rw [lk1] at hi
      split at hi
      · rename_i e2; subst e2; exact hne b hb e.symm
      · simp at hi
  have Lc : (ctx F μ κ (sm ((1000, IBlk.arr k ty row) :: bxH B)) F.w0).Le (ctx F' μ κ [(1000, some (IBlk.arr k ty row))] F.w0) (fun _ => True) := by
    refine ⟨fun id _ => ?_, fun b _ hb => hav b hb, Nat.le_refl _, fun _ _ _ _ => rfl⟩
    simp only [ctx, lk1]
    by_cases e : 1000 = id
    · subst e; right; simp [sm, lkH]
    · left; simp [e]
  have RH1 : RepH F' μ κ [(1000, some (IBlk.arr k ty row))] F'.w0 := by
    refine ⟨Chg.refl _ _, fun i j hi hj _ => ?_, fun i b hb => ?_, RH.pin⟩
    · rw [lk1] at hi hj
      split at hi <;> split at hj <;> simp_all
    · rw [lk1] at hb
      split at hb
      · rename_i e
        subst e
        injection hb with hb
        subst hb
        refine ⟨?_, hA0, ?_⟩
        · have W : WLe (ctx F μ κ (sm ((1000, IBlk.arr k ty row) :: bxH B)) F.w0) (ctx F' μ κ [(1000, some (IBlk.arr k ty row))] F.w0) (fun _ => True) := fun id hid => Lc.ids id hid
          exact flat_blk (hp := [(1000, .arr k ty row)]) W rfl rfl rfl (by simp [flatBs, hf]) (by simp [sm, lkH]) hR0
        · rcases hB0 with h | h
          · exact .inl ⟨h, rfl⟩
          · exact .inr h
      · cases hb
  simp only [RepL] at hL
  obtain ⟨v1, r1, rfl, hv1, v2, r2, rfl, hv2, rfl⟩ := hL
  have hv1' := RepV.mono Lc _ _ (fun _ _ => trivial) hv1
  simp only [RepV] at hv2
  obtain ⟨cs, rfl, hcs⟩ := hv2
  have hcs' : RepL (ctx F' μ κ [(1000, some (IBlk.arr k ty row))] F.w0) (bxE B) cs := by
    refine bx_args (c := ctx F μ κ (sm ((1000, IBlk.arr k ty row) :: bxH B)) F.w0) (c' := ctx F' μ κ [(1000, some (IBlk.arr k ty row))] F.w0) (fun b hb => ?_) rfl hcs
    obtain ⟨⟨c0, q1, q2, q3⟩, _⟩ := RH.own b.1 _ (hbx b hb)
    simp only [RepL] at q2
    obtain ⟨v, r, rfl, hv, rfl⟩ := q2
    refine ⟨by simp [ctx, hbx b hb, IBlk.shape], v, q1, RepV.mono Lc _ _ (fun _ _ => trivial) hv, (hin b hb).2.2, hnav b hb⟩
  refine (h F' μ κ _ RH1 (by simp only [RepL]; exact ⟨_, _, rfl, hv1', _, _, rfl, by simp only [RepV]; exact ⟨cs, rfl, hcs'⟩, rfl⟩)).mono ?_
  rintro e w' ⟨x, μ', κ', rfl, R', hx⟩
  have pin1 : ∀ id, 1000 ≤ id → id < 2000 → μ' id = μ id ∧ κ' id = κ id := fun id h1 h2 => by
    have a := R'.pin id h1 h2
    have b := RH.pin id h1 h2
    exact ⟨a.1.trans b.1.symm, a.2.trans b.2.symm⟩
  have em := (pin1 1000 (by omega) (by omega)).1
  have hbx' : ∀ b ∈ B, lkH (sm ((1000, IBlk.arr k ty row') :: bxH B)) b.1 = some (.box b.2.1 [b.2.2]) := fun b hb => by
    simp only [sm, lkH]
    rw [if_neg (by have := (hin b hb).1; omega)]
    exact bx_mem hnd hb
  have hlk : ∀ i b, lkH (sm ((1000, IBlk.arr k ty row') :: bxH B)) i = some b → (i = 1000 ∧ b = .arr k ty row') ∨ ∃ t y, (i, t, y) ∈ B ∧ b = .box t [y] := fun i b hb => by
    simp only [sm, lkH] at hb
    by_cases e : 1000 = i
    · rw [if_pos e] at hb; injection hb with hb; exact .inl ⟨e.symm, hb.symm⟩
    · rw [if_neg e] at hb; exact .inr (bx_lk hb)
  have hid : ∀ i, lkH (sm ((1000, IBlk.arr k ty row') :: bxH B)) i ≠ none → 1000 ≤ i ∧ i < 2000 ∧ lkH (sm ((1000, IBlk.arr k ty row) :: bxH B)) i ≠ none := fun i hi => by
    cases hc : lkH (sm ((1000, IBlk.arr k ty row') :: bxH B)) i with
    | none => exact absurd hc hi
    | some b =>
      rcases hlk i b hc with ⟨rfl, _⟩ | ⟨t, y, hm, _⟩
      · exact ⟨by omega, by omega, by simp [sm, lkH]⟩
      · exact ⟨by have := (hin _ hm).1; omega, (hin _ hm).2.1, by rw [hbx _ hm]; simp⟩
  have hcell : ∀ b, b < F.w0.heap.size → b ≠ μ 1000 → w'.heap[b]? = F.w0.heap[b]? := fun b hb hn => R'.chg.block b hb (fun h => hn h.2)
  have L2 : (ctx F μ κ (sm ((1000, IBlk.arr k ty row) :: bxH B)) F.w0).Le (ctx F μ' κ' (sm ((1000, IBlk.arr k ty row') :: bxH B)) w') (fun _ => False) := by
    refine ⟨fun _ h => h.elim, fun b hb hb2 => ?_, R'.chg.size, fun b o hb hn => ?_⟩
    · rcases hb2 with h | ⟨i, hi, rfl⟩
      · exact .inl h
      · obtain ⟨i1, i2, i3⟩ := hid i hi
        exact .inr ⟨i, i3, ((pin1 i i1 i2).1).symm⟩
    · refine World.cell?_of_block (hcell b hb (fun e => hn ?_))
      subst e
      exact .inr ⟨1000, by simp [sm, lkH], rfl⟩
  refine ⟨x, μ', κ', rfl, ⟨R'.chg.mono (fun b _ hb => hb.1), fun i j hi hj e => ?_, fun i b hb => ?_, R'.pin⟩, ?_⟩
  · obtain ⟨i1, i2, i3⟩ := hid i hi
    obtain ⟨j1, j2, j3⟩ := hid j hj
    rw [(pin1 i i1 i2).1, (pin1 j j1 j2).1] at e
    exact RH.inj i j i3 j3 e
  · rcases hlk i b hb with ⟨rfl, rfl⟩ | ⟨t, y, hm, rfl⟩
    · obtain ⟨r1, r2, r3⟩ := R'.own 1000 _ (by rw [lk1, if_pos rfl])
      refine ⟨?_, r2, ?_⟩
      · have W : WLe (ctx F' μ' κ' [(1000, some (IBlk.arr k ty row'))] w') (ctx F μ' κ' (sm ((1000, IBlk.arr k ty row') :: bxH B)) w') (fun _ => False) := fun _ h => h.elim
        obtain ⟨cur, q1, q2, q3, q4, q5, q6, q7⟩ := r1
        refine ⟨cur, q1, q2, q3, q4, q5, q6, ?_⟩
        obtain ⟨xs, hX, hcl⟩ := q7.toX
        exact (noSlX_any W row' xs hf' (fun id hi => by rw [q6 id] at hi; cases hi) hX).toR hcl
      · rcases r3 with h | h
        · exact .inl h.1
        · exact .inr h
    · obtain ⟨h1000, h2000, hpl⟩ := hin _ hm
      obtain ⟨⟨c0, q1, q2, q3⟩, q4, q5⟩ := RH.own i _ (hbx _ hm)
      have e1 := (pin1 i (by omega) h2000).1
      have hlti : μ i < F.w0.heap.size := (Array.getElem?_eq_some_iff.1 q1).1
      refine ⟨⟨c0, ?_, ?_, q3⟩, by rw [e1]; exact q4, by rw [e1]; exact q5⟩
      · show w'.heap[μ' i]? = _
        rw [e1, hcell _ hlti (hne _ hm)]; exact q1
      · refine RepL.mono L2 _ _ (fun id hi => ?_) q2
        simp only [RepL] at q2
        obtain ⟨v, r, rfl, hv, rfl⟩ := q2
        have := (plain_cell hpl hv).2 id
        simp only [IV.mentL, this, Bool.or_false] at hi
        cases hi
  · simp only [RepV, RepL] at hx ⊢; exact hx
/-- A sort of no elements of a row. -/
theorem sort_nothing {P : Program} {fn : FuncId} (hS : ∀ (p : Option Addr) (cap : Nat) (fv : Value) (w : World), Calls P fn #[.slice p 0 cap, fv] w fun r w' => r = .returned (.tuple #[]) ∧ w' = w) (i off : Nat) (full : Bool) (x : IV) (hp : List (Nat × Option IBlk)) :
    HCall P fn [.ref i off 0 full, x] hp (.tup []) hp := by
  intro F μ κ vs RH hL
  simp only [RepL] at hL
  obtain ⟨v1, r1, rfl, hv1, v2, r2, rfl, hv2, rfl⟩ := hL
  simp only [RepV] at hv1
  obtain ⟨a, cp, rfl, _⟩ := hv1
  refine (hS a cp v2 F.w0).mono ?_
  rintro r w' ⟨rfl, rfl⟩
  exact ⟨.tuple #[], μ, κ, rfl, RH, by simp only [RepV, RepL]; exact ⟨_, rfl, rfl⟩⟩
end Go.Ideal
