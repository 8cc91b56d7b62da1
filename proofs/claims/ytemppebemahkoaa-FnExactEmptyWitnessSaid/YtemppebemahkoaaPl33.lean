/- Subsets of at most three indices: the first one for which something holds. -/
import Derived.Test.YtemppebemahkoaaPl31
import Derived.Test.YtemppebemahkoaaPl32
import Derived.Test.YtemppebemahkoaaPl13

namespace Go.Pl

/-- The first value that a function has from a on, below n. -/
def fromN {β : Type} (g : Nat → Option β) (a n : Nat) : Option β := firstN (fun j => g (a + j)) (n - a)
/-- The search by depth. -/
def dfs (f : List Nat → Bool) (n : Nat) : Nat → List Nat → Nat → Option (List Nat)
  | 0, cur, _ => if f cur then some cur else none
  | d + 1, cur, a => fromN (fun k => dfs f n d (cur ++ [k]) (k + 1)) a n
/-- What may be added: d ascending numbers from a on, below n. -/
def exts (n : Nat) : Nat → List Nat → Nat → List (List Nat)
  | 0, cur, _ => [cur]
  | d + 1, cur, a => (List.range (n - a)).flatMap fun j => exts n d (cur ++ [a + j]) (a + j + 1)
theorem firstN_find {β : Type} {f : β → Bool} {g : Nat → List β} : ∀ m, firstN (fun j => (g j).find? f) m = ((List.range m).flatMap g).find? f
  | 0 => rfl
  | m + 1 => by
    rw [firstN, firstN_find m, List.range_succ, List.flatMap_append, List.find?_append]
    simp only [List.flatMap_cons, List.flatMap_nil, List.append_nil]
    cases List.find? f (List.flatMap g (List.range m)) <;> rfl
theorem dfs_find (f : List Nat → Bool) (n : Nat) : ∀ d cur a, dfs f n d cur a = (exts n d cur a).find? f
  | 0, cur, a => by
    simp only [dfs, exts, List.find?_cons, List.find?_nil]
    cases f cur <;> rfl
  | d + 1, cur, a => by
    rw [dfs, exts, fromN, ← firstN_find]
    congr 1
    funext j
    exact dfs_find f n d _ _
/-- Ascending numbers from a on, below n. -/
def Up (a n : Nat) : List Nat → Prop
  | [] => True
  | x :: l => a ≤ x ∧ x < n ∧ Up (x + 1) n l
theorem mem_exts {n : Nat} {w : List Nat} : ∀ {d : Nat} {cur : List Nat} {a : Nat}, w ∈ exts n d cur a ↔ ∃ e, w = cur ++ e ∧ e.length = d ∧ Up a n e
  | 0, cur, a => by
    simp only [exts, List.mem_singleton]
    constructor
    · rintro rfl; exact ⟨[], by simp, rfl, trivial⟩
    · rintro ⟨e, rfl, he, _⟩
      rw [List.eq_nil_of_length_eq_zero he, List.append_nil]
  | d + 1, cur, a => by
    simp only [exts, List.mem_flatMap, List.mem_range]
    constructor
    · rintro ⟨j, hj, h⟩
      obtain ⟨e, rfl, h2, h3⟩ := mem_exts.1 h
      exact ⟨(a + j) :: e, by simp, by simp [h2], by omega, by omega, h3⟩
    · rintro ⟨e, rfl, h2, h3⟩
      match e, h2, h3 with
      | x :: e, h2, ⟨h3, h4, h5⟩ =>
        refine ⟨x - a, by omega, ?_⟩
        rw [show a + (x - a) = x by omega]
        exact mem_exts.2 ⟨e, by simp, by simpa using h2, h5⟩
def subs (n : Nat) : List (List Nat) := exts n 1 [] 0 ++ exts n 2 [] 0 ++ exts n 3 [] 0
theorem mem_subs {n : Nat} {w : List Nat} : w ∈ subs n ↔ 1 ≤ w.length ∧ w.length ≤ 3 ∧ Up 0 n w := by
  simp only [subs, List.mem_append, mem_exts, List.nil_append]
  constructor
  · rintro ((⟨e, rfl, h, k⟩ | ⟨e, rfl, h, k⟩) | ⟨e, rfl, h, k⟩) <;> exact ⟨by omega, by omega, k⟩
  · rintro ⟨h1, h2, h3⟩
    have : w.length = 1 ∨ w.length = 2 ∨ w.length = 3 := by omega
    rcases this with h | h | h
    · exact .inl (.inl ⟨w, rfl, h, h3⟩)
    · exact .inl (.inr ⟨w, rfl, h, h3⟩)
    · exact .inr ⟨w, rfl, h, h3⟩
theorem up_lt : ∀ {w : List Nat} {a n : Nat}, Up a n w → ∀ x ∈ w, a ≤ x ∧ x < n
  | y :: w, a, n, ⟨h1, h2, h3⟩, x, hx => by
    rcases List.mem_cons.1 hx with rfl | hx
    · exact ⟨h1, h2⟩
    · have := up_lt h3 x hx; omega
/-- The first subset for which f holds. -/
def srchP (f : List Nat → Bool) (n : Nat) : Option (List Nat) := (subs n).find? f
theorem srch_dfs (f : List Nat → Bool) (n : Nat) : srchP f n = match dfs f n 1 [] 0 with
    | some w => some w
    | none => match dfs f n 2 [] 0 with
      | some w => some w
      | none => dfs f n 3 [] 0 := by
  rw [srchP, subs, List.find?_append, List.find?_append, dfs_find, dfs_find, dfs_find]
  cases List.find? f (exts n 1 [] 0) with
  | some w => rfl
  | none =>
    cases List.find? f (exts n 2 [] 0) with
    | some w => rfl
    | none => rfl
theorem srch_some {f : List Nat → Bool} {n : Nat} {w : List Nat} (h : srchP f n = some w) : f w = true ∧ 1 ≤ w.length ∧ w.length ≤ 3 ∧ Up 0 n w :=
  ⟨List.find?_some h, mem_subs.1 (List.mem_of_find?_eq_some h)⟩
theorem srch_none {f : List Nat → Bool} {n : Nat} : srchP f n = none ↔ ∀ w, 1 ≤ w.length → w.length ≤ 3 → Up 0 n w → f w = false := by
  rw [srchP, List.find?_eq_none]
  constructor
  · intro h w h1 h2 h3
    simpa using h w (mem_subs.2 ⟨h1, h2, h3⟩)
  · intro h w hw
    obtain ⟨h1, h2, h3⟩ := mem_subs.1 hw
    simp [h w h1 h2 h3]
theorem srch_congr {f g : List Nat → Bool} {n : Nat} (h : ∀ w, 1 ≤ w.length → w.length ≤ 3 → Up 0 n w → f w = g w) : srchP f n = srchP g n := by
  unfold srchP
  have key : ∀ l : List (List Nat), (∀ w ∈ l, f w = g w) → l.find? f = l.find? g := by
    intro l
    induction l with
    | nil => intro _; rfl
    | cons w l ih =>
      intro hl
      rw [List.find?_cons, List.find?_cons, hl w (by simp), ih fun v hv => hl v (by simp [hv])]
  exact key _ fun w hw => by obtain ⟨h1, h2, h3⟩ := mem_subs.1 hw; exact h w h1 h2 h3

/-! sorted indices of a few -/
def ltN (a b : Nat) : Bool := decide (a < b)
theorem tot_ltN : Tot ltN where
  irrefl a := by simp [ltN]
  trans a b c h k := by simp only [ltN, decide_eq_true_eq] at *; omega
  total a b h k := by simp only [ltN, decide_eq_false_iff_not] at *; omega
theorem up_of_asc {n : Nat} : ∀ {w : List Nat} {a : Nat}, AscG ltN w → (∀ x ∈ w, a ≤ x ∧ x < n) → Up a n w
  | [], _, _, _ => trivial
  | x :: w, a, h, hb => by
    unfold AscG at h
    rw [List.pairwise_cons] at h
    refine ⟨(hb x (by simp)).1, (hb x (by simp)).2, up_of_asc h.2 fun y hy => ⟨?_, (hb y (by simp [hy])).2⟩⟩
    have := h.1 y hy
    simp only [ltN, decide_eq_true_eq] at this; omega
theorem addG_le {n : Nat} : ∀ {l : List Nat}, (addG ltN n l).length ≤ l.length + 1
  | [] => by simp [addG]
  | x :: l => by
    have := addG_le (n := n) (l := l)
    rw [addG]
    split
    · simp only [List.length_cons]; omega
    · split <;> simp only [List.length_cons] <;> omega
theorem insG_le (l : List Nat) : (insG ltN l).length ≤ l.length := by
  have key : ∀ (l m : List Nat), (l.foldl (fun m p => addG ltN p m) m).length ≤ m.length + l.length := by
    intro l
    induction l with
    | nil => intro m; simp
    | cons x l ih =>
      intro m
      have h1 := ih (addG ltN x m)
      have h2 := addG_le (n := x) (l := m)
      rw [List.foldl_cons, List.length_cons]; omega
  have := key l []
  simpa [insG] using this
/-- The set of a few indices is one of the subsets. -/
theorem sub_of_idx {n : Nat} {w : List Nat} (h0 : w ≠ []) (h3 : w.length ≤ 3) (hb : ∀ x ∈ w, x < n) : ∃ v, 1 ≤ v.length ∧ v.length ≤ 3 ∧ Up 0 n v ∧ ∀ x, x ∈ v ↔ x ∈ w := by
  have hm : ∀ x, x ∈ insG ltN w ↔ x ∈ w := fun x => mem_insG tot_ltN
  refine ⟨insG ltN w, ?_, Nat.le_trans (insG_le w) h3, up_of_asc (asc_insG tot_ltN w) fun x hx => ⟨Nat.zero_le _, hb x ((hm x).1 hx)⟩, hm⟩
  obtain ⟨x, hx⟩ := List.exists_mem_of_ne_nil _ h0
  exact List.length_pos_of_mem ((hm x).2 hx)

/-! empty regions -/
abbrev hA (l : List Hf) (i : Nat) : Hf := l.getD i (0, 0, 0)
def selN (l : List Hf) (w : List Nat) : List Hf := w.map fun k => hA l k
def empB (l : List Hf) (w : List Nat) : Bool := (cornP (selN l w)).isEmpty
theorem hA_mem {l : List Hf} {i : Nat} (h : i < l.length) : hA l i ∈ l := by simp [hA, List.getD, h]
theorem sel_mem {l : List Hf} {w : List Nat} (hw : ∀ x ∈ w, x < l.length) : ∀ k ∈ selN l w, k ∈ l := by
  intro k hk
  obtain ⟨x, hx, rfl⟩ := List.mem_map.1 hk
  exact hA_mem (hw x hx)
theorem reg_nil : Reg [] := ⟨0, 0, 1, by decide, by decide⟩
/-- A region is empty exactly if that of three of the half-planes is. -/
theorem witness_iff (l : List Hf) : (srchP (empB l) l.length).isSome = (cornP l).isEmpty := by
  cases h : srchP (empB l) l.length with
  | some w =>
    obtain ⟨h1, h2, h3, h4⟩ := srch_some h
    have hw := up_lt h4
    have : cornP l = [] := by
      refine corn_sub (m := selN l w) (sel_mem fun x hx => (hw x hx).2) ?_
      simpa [empB] using h1
    simp [this]
  | none =>
    rw [srch_none] at h
    have hr : Reg l := by
      refine helly fun ks hk hs => ?_
      by_cases h0 : ks = []
      · subst h0; exact reg_nil
      · have hidx : ∃ w : List Nat, w.length = ks.length ∧ (∀ x ∈ w, x < l.length) ∧ selN l w = ks := by
          clear hk h0
          induction ks with
          | nil => exact ⟨[], rfl, by simp, rfl⟩
          | cons k ks ih =>
            obtain ⟨w, e1, e2, e3⟩ := ih fun q hq => hs q (by simp [hq])
            obtain ⟨i, hi, e⟩ := List.mem_iff_getElem.1 (hs k (by simp))
            refine ⟨i :: w, by simp [e1], fun x hx => ?_, ?_⟩
            · rcases List.mem_cons.1 hx with rfl | hx
              · exact hi
              · exact e2 x hx
            · simp only [selN, List.map_cons] at e3 ⊢
              rw [e3]
              simp [hA, List.getD, hi, e]
        obtain ⟨w, e1, e2, e3⟩ := hidx
        obtain ⟨v, v1, v2, v3, v4⟩ := sub_of_idx (w := w) (by rintro rfl; simp [selN] at e3; exact h0 e3) (by omega) e2
        have hv := h v v1 v2 v3
        have hne : cornP (selN l v) ≠ [] := by
          intro e
          rw [empB, e] at hv; cases hv
        refine reg_sub (l := selN l v) (fun k hk => ?_) (reg_corn.2 hne)
        rw [← e3] at hk
        obtain ⟨x, hx, rfl⟩ := List.mem_map.1 hk
        exact List.mem_map.2 ⟨x, (v4 x).2 hx, rfl⟩
    have := reg_corn.1 hr
    cases hc : cornP l with
    | nil => exact absurd hc this
    | cons q r => rfl
end Go.Pl
