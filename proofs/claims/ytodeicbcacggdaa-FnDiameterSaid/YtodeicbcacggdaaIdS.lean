/- A run in the text's order serves for every order. -/
import Derived.Test.YtodeicbcacggdaaIdR
set_option linter.unusedVariables false
set_option linter.unusedSimpArgs false
namespace Go.Ideal
open Go

def remI (n : Nat) (listed : Array Bool) : List Nat := (List.range n).filter fun i => !listed.getD i true

theorem getD_set {listed : Array Bool} {i j : Nat} (h : j ≠ i) : (listed.setIfInBounds i true).getD j true = listed.getD j true := by
  simp only [Array.getD_eq_getD_getElem?, Array.getElem?_setIfInBounds]
  rw [if_neg (Ne.symm h)]
theorem getD_set_self {listed : Array Bool} {i : Nat} : (listed.setIfInBounds i true).getD i true = true := by
  simp only [Array.getD_eq_getD_getElem?, Array.getElem?_setIfInBounds]
  by_cases h : i < listed.size <;> simp [h]

theorem range_split {n i : Nat} (hi : i < n) : List.range n = List.range i ++ i :: (List.range (n - i - 1)).map (fun j => i + (1 + j)) := by
  have e : n = i + (1 + (n - i - 1)) := by omega
  generalize n - i - 1 = m at e
  subst e
  rw [List.range_add, List.range_add]
  simp [Function.comp_def]

theorem remI_pick {n i : Nat} {listed : Array Bool} (hi : i < n) (hl : listed.getD i true = false) :
    ∃ l1 l2, remI n listed = l1 ++ i :: l2 ∧ remI n (listed.setIfInBounds i true) = l1 ++ l2 ∧ ∀ j ∈ l1, j < i ∧ listed.getD j true = false := by
  refine ⟨(List.range i).filter fun j => !listed.getD j true, ((List.range (n - i - 1)).map (fun j => i + (1 + j))).filter fun j => !listed.getD j true, ?_, ?_, ?_⟩
  · unfold remI
    rw [range_split hi, List.filter_append, List.filter_cons]
    simp only [hl, Bool.not_false, if_true]
  · unfold remI
    rw [range_split hi, List.filter_append, List.filter_cons]
    simp only [getD_set_self, Bool.not_true, Bool.false_eq_true, if_false]
    congr 1
    · apply List.filter_congr
      intro j hj
      rw [getD_set (by have := List.mem_range.1 hj; omega)]
    · apply List.filter_congr
      intro j hj
      obtain ⟨q, hq, rfl⟩ := List.mem_map.1 hj
      rw [getD_set (by omega)]
  · intro j hj
    obtain ⟨h1, h2⟩ := List.mem_filter.1 hj
    exact ⟨List.mem_range.1 h1, by simpa using h2⟩

theorem RepS.eqv {F : Fr} {μ κ : Nat → Nat} {s s' : ISt} {a : Act} {w : World} (R : RepS F μ κ s' a w) (h : Eqv s s') : RepS F μ κ s a w := by
  have hlk : lkH s'.hp = lkH s.hp := funext h.h
  have hc : ctx F μ κ s'.hp w = ctx F μ κ s.hp w := by unfold ctx avOf; rw [hlk]
  refine ⟨R.defers, R.size, R.chg, ?_, ?_, ?_, R.pin⟩
  · rw [← hlk]; exact R.inj
  · rw [← hlk, ← hc]; exact R.own
  · intro i
    rw [← hc, ← h.t i]
    exact R.tmps i

theorem RepS.drawn {F : Fr} {μ κ : Nat → Nat} {s : ISt} {a : Act} {w : World} (R : RepS F μ κ s a w) : RepS F μ κ s a { w with drawn := w.drawn + 1 } := by
  have L : (ctx F μ κ s.hp w).Le (ctx F μ κ s.hp { w with drawn := w.drawn + 1 }) (fun _ => True) := ⟨fun _ _ => .inr ⟨rfl, rfl, rfl⟩, fun _ _ h => h, Nat.le_refl _, fun _ _ _ _ => rfl⟩
  refine R.move (fun _ => True) ⟨R.chg.os, R.chg.tape, R.chg.output, R.chg.size, R.chg.block, Nat.le_succ_of_le R.chg.drawn⟩ R.inj ?_ L (fun _ _ _ => trivial) (fun _ _ _ => ⟨rfl, rfl⟩)
  intro id blk hb
  obtain ⟨h1, h2, h3⟩ := R.own id blk hb
  exact ⟨RepB.mono L rfl rfl rfl (fun _ => rfl) (fun _ _ _ _ _ => trivial) h1, h2, h3⟩

/-- Does the later wait for the earlier, without a detour? -/
def edge (ops : List Oper) (j i : Nat) : Bool :=
  match ops[i]? with
  | some o => o.after.toList.any fun e => e.on == j && Region.binds .any e
  | none => false

/-- Do the edges lead back in the text? -/
def backB : Nat → List Oper → Bool
  | _, [] => true
  | i, o :: l => (o.after.toList.all fun e => !Region.binds .any e || decide (e.on < i)) && backB (i + 1) l

theorem backB_spec : ∀ {l : List Oper} {k : Nat}, backB k l = true → ∀ i o, l[i]? = some o → ∀ e ∈ o.after.toList, Region.binds .any e = true → e.on < k + i
  | [], k, _, i, o, h => by simp at h
  | o' :: l, k, hb, i, o, h => by
    simp only [backB, Bool.and_eq_true] at hb
    intro e he hbd
    cases i with
    | zero =>
      simp at h
      subst h
      have := List.all_eq_true.1 hb.1 e he
      rw [hbd] at this
      simpa using this
    | succ i =>
      have := backB_spec hb.2 i o (by simpa using h) e he hbd
      omega

section
variable {P : Program} {T : Nat → TD} {G : List (Nat × PSpec)} {F : Fr}

theorem wpAny_tr (hT : TOK P T) (hG : GOK P G) {ops : List Oper} {it : Nat → It} (hit : ∀ i o, ops[i]? = some o → (it i).o = o) (hback : backB 0 ops = true)
    (hpair : ∀ j i, j < i → i < ops.length → edge ops j i = true ∨ Indep ops (it j) (it i)) {Q : Exit → Act → World → Prop} :
    ∀ (fuel : Nat) (listed : Array Bool) (s : ISt), (remI ops.length listed).length ≤ fuel → Tr T G F.N ops s ((remI ops.length listed).map it) →
      (∀ s', Eqv (fin s ((remI ops.length listed).map it)) s' → ∀ μ κ a w, RepS F μ κ s' a w → Q .normal a w) →
      ∀ μ κ a w, RepS F μ κ s a w → wpAny P .any ⟨ops⟩ Q fuel listed a w := by
  intro fuel
  have hsz : (⟨ops⟩ : Array Oper).size = ops.length := rfl
  have hready : ∀ listed, Region.ready .any ⟨ops⟩ listed = [] → remI ops.length listed = [] := by
    intro listed hr
    apply Classical.byContradiction
    intro hne
    have hex : ∃ i, i < ops.length ∧ listed.getD i true = false := by
      cases hrem : remI ops.length listed with
      | nil => exact absurd hrem hne
      | cons i l =>
        have : i ∈ remI ops.length listed := by rw [hrem]; simp
        obtain ⟨h1, h2⟩ := List.mem_filter.1 this
        exact ⟨i, List.mem_range.1 h1, by simpa using h2⟩
    have hmin : ∃ i, (i < ops.length ∧ listed.getD i true = false) ∧ ∀ j, j < i → ¬ (j < ops.length ∧ listed.getD j true = false) := by
      obtain ⟨i, hi⟩ := hex
      induction i using Nat.strongRecOn with
      | _ i ih =>
        by_cases h : ∀ j, j < i → ¬ (j < ops.length ∧ listed.getD j true = false)
        · exact ⟨i, hi, h⟩
        · have : ∃ j, j < i ∧ (j < ops.length ∧ listed.getD j true = false) := by
            apply Classical.byContradiction
            intro hno
            exact h fun j hj hp => hno ⟨j, hj, hp⟩
          obtain ⟨j, hj, hp⟩ := this
          exact ih j hj hp
    obtain ⟨i, ⟨hi1, hi2⟩, hlow⟩ := hmin
    have : i ∈ Region.ready .any ⟨ops⟩ listed := by
      unfold Region.ready
      refine List.mem_filter.2 ⟨List.mem_range.2 (by rw [hsz]; exact hi1), ?_⟩
      have he : (⟨ops⟩ : Array Oper)[i]? = some ops[i] := by simp [hi1]
      simp only [hi2, he, Option.map_some, Option.getD_some, Bool.not_false, Bool.true_and]
      rw [Array.all_eq_true_iff_forall_mem]
      intro e hm
      cases hb : Region.binds .any e with
      | false => simp
      | true =>
        have hlt := backB_spec hback i ops[i] (by simp [hi1]) e (by simpa using hm) hb
        have := hlow e.on (by omega)
        have hon : e.on < ops.length := by omega
        cases hg : listed.getD e.on true with
        | false => exact absurd ⟨hon, hg⟩ this
        | true =>
          have : listed.getD e.on false = true := by
            simp only [Array.getD_eq_getD_getElem?] at hg ⊢
            cases hq : listed[e.on]? with
            | some b => rw [hq] at hg; simpa using hg
            | none =>
              exfalso
              have h1 : listed.size ≤ e.on := by simpa using hq
              have h2 : listed.getD i true = true := by
                simp only [Array.getD_eq_getD_getElem?]
                rw [Array.getElem?_eq_none (by omega)]
                rfl
              rw [h2] at hi2
              cases hi2
          rw [this]; simp
    rw [hr] at this
    simp at this
  induction fuel with
  | zero =>
    intro listed s hl ht hK μ κ a w R
    have hrem : remI ops.length listed = [] := List.eq_nil_of_length_eq_zero (by omega)
    refine ⟨?_, ?_⟩
    · apply List.eq_nil_iff_forall_not_mem.2
      intro i hi
      obtain ⟨h1, h2⟩ := List.mem_filter.1 hi
      have : i ∈ remI ops.length listed := List.mem_filter.2 ⟨by rw [hsz] at h1; exact h1, by simp only [Bool.and_eq_true] at h2; exact h2.1⟩
      rw [hrem] at this
      simp at this
    · rw [hrem] at hK
      exact hK s (.refl _) μ κ a w R
  | succ fuel ih =>
    intro listed s hl ht hK μ κ a w R
    refine ⟨fun hr => ?_, fun i hi => ?_⟩
    · rw [hready listed hr] at hK
      exact hK s (.refl _) μ κ a w R
    · obtain ⟨h1, h2⟩ := List.mem_filter.1 hi
      have hin : i < ops.length := by rw [hsz] at h1; exact List.mem_range.1 h1
      simp only [Bool.and_eq_true, Bool.not_eq_true'] at h2
      obtain ⟨h2, h3⟩ := h2
      have he : (⟨ops⟩ : Array Oper)[i]? = some ops[i] := by simp [hin]
      rw [he] at h3
      simp only [Option.map_some, Option.getD_some] at h3
      rw [Array.all_eq_true_iff_forall_mem] at h3
      obtain ⟨l1, l2, e1, e2, hl1⟩ := remI_pick hin h2
      have hind : ∀ y ∈ l1.map it, Indep ops y (it i) := by
        intro y hy
        obtain ⟨j, hj, rfl⟩ := List.mem_map.1 hy
        obtain ⟨k1, k2⟩ := hl1 j hj
        rcases hpair j i k1 hin with h | h
        · exfalso
          unfold edge at h
          rw [List.getElem?_eq_getElem hin] at h
          simp only [List.any_eq_true, Bool.and_eq_true, beq_iff_eq] at h
          obtain ⟨e, hm, rfl, hb⟩ := h
          have := h3 e (by simpa using hm)
          rw [hb] at this
          have h4 : listed.getD e.on false = true := by simpa using this
          simp only [Array.getD_eq_getD_getElem?] at h4 k2
          cases hq : listed[e.on]? with
          | some b => rw [hq] at h4 k2; simp at h4 k2; rw [h4] at k2; cases k2
          | none => rw [hq] at h4; simp at h4
        · exact h
      rw [e1] at ht hK
      simp only [List.map_append, List.map_cons] at ht hK
      obtain ⟨t1, t2⟩ := tr_move (l1 := l1.map it) (l2 := l2.map it) ht hind
      obtain ⟨q1, q2, q3⟩ := t1
      have ho : (it i).o = ops[i] := hit i ops[i] (by simp [hin])
      unfold wpOp
      rw [he]
      simp only []
      refine (effOp_sound hT hG (ops := ops) (o := ops[i]) (by rw [← ho]; exact q1)) μ κ a w R Q _ ?_
      intro μ' κ' a' w' R'
      refine ih (listed.setIfInBounds i true) ((it i).app s) ?_ ?_ ?_ μ' κ' a' w' ?_
      · rw [e1] at hl
        rw [e2]
        simp only [List.length_append, List.length_cons] at hl ⊢
        omega
      · rw [e2, List.map_append]; exact q3
      · intro s' hs'
        rw [e2, List.map_append] at hs'
        exact hK s' (t2.trans hs')
      · have : s.app (effOp T G F.N ops ops[i] s) = (it i).app s := by
          rw [← ho]
          conv => rhs; rw [q2]
          rfl
        rw [← this]
        exact R'

end
end Go.Ideal
