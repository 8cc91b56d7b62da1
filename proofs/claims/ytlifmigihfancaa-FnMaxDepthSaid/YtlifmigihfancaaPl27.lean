/- Rectangles: the grid of their borders, the deepest cell. -/
import Derived.Test.YtlifmigihfancaaPl13
set_option linter.unusedVariables false
namespace Go.Pl

abbrev Rc := (Int × Int) × (Int × Int)
def ltI (a b : Int) : Bool := decide (a < b)
theorem tot_ltI : Tot ltI where
  irrefl := fun x => by simp [ltI]
  trans := fun x y z h1 h2 => by simp only [ltI, decide_eq_true_eq] at *; omega
  total := fun x y h1 h2 => by simp only [ltI, decide_eq_false_iff_not] at *; omega
/-- Is the cell with this lower left corner in the rectangle? -/
def inC (x y : Int) (r : Rc) : Bool := decide (r.1.1 ≤ x ∧ x ≤ r.2.1 - 1) && decide (r.1.2 ≤ y ∧ y ≤ r.2.2 - 1)
def dep (l : List Rc) (x y : Int) : Nat := l.countP (inC x y)
def okR (r : Rc) : Prop := r.1.1 < r.2.1 ∧ r.1.2 < r.2.2
def bxs (l : List Rc) : List Int := insG ltI (l.flatMap fun r => [r.1.1, r.2.1])
def bys (l : List Rc) : List Int := insG ltI (l.flatMap fun r => [r.1.2, r.2.2])
theorem mem_bxs {l : List Rc} {x : Int} : x ∈ bxs l ↔ ∃ r ∈ l, x = r.1.1 ∨ x = r.2.1 := by
  rw [bxs, mem_insG tot_ltI]; simp
theorem mem_bys {l : List Rc} {x : Int} : x ∈ bys l ↔ ∃ r ∈ l, x = r.1.2 ∨ x = r.2.2 := by
  rw [bys, mem_insG tot_ltI]; simp
theorem asc_bxs (l : List Rc) : AscG ltI (bxs l) := asc_insG tot_ltI _
theorem asc_bys (l : List Rc) : AscG ltI (bys l) := asc_insG tot_ltI _
abbrev iA (l : List Int) (i : Nat) : Int := l.getD i 0
theorem asc_lt {l : List Int} (h : AscG ltI l) {i j : Nat} (hij : i < j) (hj : j < l.length) : iA l i < iA l j := by
  have := (List.pairwise_iff_getElem.1 h) i j (by omega) hj hij
  simpa [ltI, iA, List.getD, hj, show i < l.length by omega] using this
theorem iA_mem {l : List Int} {i : Nat} (h : i < l.length) : iA l i ∈ l := by simp [iA, List.getD, h]
theorem mem_iA {l : List Int} {x : Int} (h : x ∈ l) : ∃ i, i < l.length ∧ iA l i = x := by
  obtain ⟨i, hi, rfl⟩ := List.mem_iff_getElem.1 h
  exact ⟨i, hi, by simp [iA, List.getD, hi]⟩
/-- A member that is more than one place's is at least the next place's. -/
theorem asc_next {l : List Int} (h : AscG ltI l) {i : Nat} {x : Int} (hi : i + 1 < l.length) (hx : x ∈ l) : iA l (i + 1) ≤ x ↔ iA l i < x := by
  obtain ⟨j, hj, rfl⟩ := mem_iA hx
  have h1 := asc_lt h (i := i) (j := i + 1) (by omega) hi
  constructor
  · intro q; omega
  · intro q
    rcases Nat.lt_trichotomy j (i + 1) with c | c | c
    · rcases Nat.lt_or_ge j i with e | e
      · have := asc_lt h e (by omega); omega
      · have : j = i := by omega
        subst this; omega
    · subst c; omega
    · have := asc_lt h c hj; omega

/-- A cell: its corners, how many have it. -/
abbrev Cl := Rc × Int
def inR (c r : Rc) : Bool := decide (r.1.1 ≤ c.1.1) && decide (c.2.1 ≤ r.2.1) && decide (r.1.2 ≤ c.1.2) && decide (c.2.2 ≤ r.2.2)
def cel (l : List Rc) (x y x' y' : Int) : Cl := (((x, y), (x', y')), ((l.countP (inR ((x, y), (x', y'))) : Nat) : Int))
def rowC (l : List Rc) (ys : List Int) (x x' : Int) : Nat → List Cl
  | 0 => []
  | k + 1 => rowC l ys x x' k ++ [cel l x (iA ys k) x' (iA ys (k + 1))]
def grC (l : List Rc) (xs ys : List Int) : Nat → List Cl
  | 0 => []
  | i + 1 => grC l xs ys i ++ rowC l ys (iA xs i) (iA xs (i + 1)) (ys.length - 1)
def celP (l : List Rc) : List Cl := grC l (bxs l) (bys l) ((bxs l).length - 1)
theorem mem_rowC {l : List Rc} {ys : List Int} {x x' : Int} {c : Cl} : ∀ k, c ∈ rowC l ys x x' k ↔ ∃ j, j < k ∧ c = cel l x (iA ys j) x' (iA ys (j + 1))
  | 0 => by simp [rowC]
  | k + 1 => by
    rw [rowC, List.mem_append, mem_rowC k, List.mem_singleton]
    constructor
    · rintro (⟨j, hj, e⟩ | e)
      · exact ⟨j, by omega, e⟩
      · exact ⟨k, by omega, e⟩
    · rintro ⟨j, hj, e⟩
      rcases Nat.lt_or_ge j k with q | q
      · exact .inl ⟨j, q, e⟩
      · exact .inr (by rw [e, show j = k by omega])
theorem mem_grC {l : List Rc} {xs ys : List Int} {c : Cl} : ∀ n, c ∈ grC l xs ys n ↔ ∃ i j, i < n ∧ j < ys.length - 1 ∧ c = cel l (iA xs i) (iA ys j) (iA xs (i + 1)) (iA ys (j + 1))
  | 0 => by simp [grC]
  | n + 1 => by
    rw [grC, List.mem_append, mem_grC n, mem_rowC]
    constructor
    · rintro (⟨i, j, h1, h2, e⟩ | ⟨j, h2, e⟩)
      · exact ⟨i, j, by omega, h2, e⟩
      · exact ⟨n, j, by omega, h2, e⟩
    · rintro ⟨i, j, h1, h2, e⟩
      rcases Nat.lt_or_ge i n with q | q
      · exact .inl ⟨i, j, q, h2, e⟩
      · exact .inr ⟨j, h2, by rw [e, show i = n by omega]⟩
/-- A cell of the grid is in as many as its lower left corner. -/
theorem cel_dep {l : List Rc} {i j : Nat} (hi : i + 1 < (bxs l).length) (hj : j + 1 < (bys l).length) :
    (cel l (iA (bxs l) i) (iA (bys l) j) (iA (bxs l) (i + 1)) (iA (bys l) (j + 1))).2 = ((dep l (iA (bxs l) i) (iA (bys l) j) : Nat) : Int) := by
  show ((l.countP _ : Nat) : Int) = ((l.countP _ : Nat) : Int)
  rw [List.countP_congr]
  intro r hr
  have hx := asc_next (asc_bxs l) hi (x := r.2.1) (mem_bxs.2 ⟨r, hr, .inr rfl⟩)
  have hy := asc_next (asc_bys l) hj (x := r.2.2) (mem_bys.2 ⟨r, hr, .inr rfl⟩)
  simp only [inR, inC, Bool.and_eq_true, decide_eq_true_eq]
  omega
/-! the deepest -/
def bestC : List Cl → Cl → Cl
  | [], b => b
  | c :: l, b => if b.2 < c.2 then bestC l c else bestC l b
theorem bestC_facts : ∀ (l : List Cl) (b : Cl), (bestC l b = b ∨ bestC l b ∈ l) ∧ b.2 ≤ (bestC l b).2 ∧ ∀ c ∈ l, c.2 ≤ (bestC l b).2
  | [], b => ⟨.inl rfl, Int.le_refl _, fun c h => by cases h⟩
  | x :: l, b => by
    rw [bestC]
    split
    · rename_i hb
      obtain ⟨h1, h2, h3⟩ := bestC_facts l x
      refine ⟨.inr ?_, by omega, fun c hc => ?_⟩
      · rcases h1 with h | h
        · rw [h]; exact List.mem_cons_self
        · exact List.mem_cons_of_mem _ h
      · rcases List.mem_cons.1 hc with rfl | hc
        · exact h2
        · exact h3 c hc
    · rename_i hb
      obtain ⟨h1, h2, h3⟩ := bestC_facts l b
      refine ⟨?_, h2, fun c hc => ?_⟩
      · rcases h1 with h | h
        · exact .inl h
        · exact .inr (List.mem_cons_of_mem _ h)
      · rcases List.mem_cons.1 hc with rfl | hc
        · omega
        · exact h3 c hc
def bestP (D : Int → Int → Nat) : List (Int × Int) → Int × (Int × Int) → Int × (Int × Int)
  | [], b => b
  | p :: l, b => if b.1 < (D p.1 p.2 : Int) then bestP D l ((D p.1 p.2 : Int), p) else bestP D l b
theorem bestP_app {D : Int → Int → Nat} : ∀ {l m : List (Int × Int)} {b : Int × (Int × Int)}, bestP D (l ++ m) b = bestP D m (bestP D l b)
  | [], m, b => rfl
  | p :: l, m, b => by
    rw [List.cons_append, bestP, bestP]
    split <;> exact bestP_app
theorem bestP_zero {D : Int → Int → Nat} : ∀ {l : List (Int × Int)} {b : Int × (Int × Int)}, 0 ≤ b.1 → (∀ p ∈ l, D p.1 p.2 = 0) → bestP D l b = b
  | [], b, _, _ => rfl
  | p :: l, b, hb, h => by
    rw [bestP, h p List.mem_cons_self, if_neg (by simpa using hb)]
    exact bestP_zero hb fun q hq => h q (List.mem_cons_of_mem _ hq)
theorem bestP_nonneg {D : Int → Int → Nat} : ∀ {l : List (Int × Int)} {b : Int × (Int × Int)}, 0 ≤ b.1 → 0 ≤ (bestP D l b).1
  | [], b, h => h
  | p :: l, b, h => by
    rw [bestP]
    split
    · exact bestP_nonneg (by simp only []; omega)
    · exact bestP_nonneg h
theorem bestC_bestP {D : Int → Int → Nat} : ∀ {l : List Cl} {b : Cl}, (∀ c ∈ l, c.2 = (D c.1.1.1 c.1.1.2 : Int)) → ((bestC l b).2, (bestC l b).1.1) = bestP D (l.map fun c => c.1.1) (b.2, b.1.1)
  | [], b, _ => rfl
  | c :: l, b, h => by
    have hc := h c List.mem_cons_self
    have hl := fun x hx => h x (List.mem_cons_of_mem _ hx)
    rw [List.map_cons, bestC, bestP]
    simp only []
    rw [← hc]
    split
    · exact bestC_bestP hl
    · exact bestC_bestP hl
def rowP (ys : List Int) (x : Int) (k : Nat) : List (Int × Int) := (List.range k).map fun j => (x, iA ys j)
def grP (xs ys : List Int) (m : Nat) : Nat → List (Int × Int)
  | 0 => []
  | i + 1 => grP xs ys m i ++ rowP ys (iA xs i) m
theorem rowP_succ (ys : List Int) (x : Int) (k : Nat) : rowP ys x (k + 1) = rowP ys x k ++ [(x, iA ys k)] := by simp [rowP, List.range_succ]
theorem row_map (l : List Rc) (ys : List Int) (x x' : Int) : ∀ k, (rowC l ys x x' k).map (fun c => c.1.1) = rowP ys x k
  | 0 => rfl
  | k + 1 => by rw [rowC, List.map_append, row_map l ys x x' k, rowP_succ]; rfl
theorem gr_map (l : List Rc) (xs ys : List Int) : ∀ n, (grC l xs ys n).map (fun c => c.1.1) = grP xs ys (ys.length - 1) n
  | 0 => rfl
  | n + 1 => by rw [grC, List.map_append, gr_map l xs ys n, row_map, grP]
theorem dep_zero_x {l : List Rc} {x y : Int} (h : ∀ z ∈ bxs l, z ≤ x) : dep l x y = 0 := by
  rw [dep, List.countP_eq_zero]
  intro r hr hc
  have := h r.2.1 (mem_bxs.2 ⟨r, hr, .inr rfl⟩)
  simp only [inC, Bool.and_eq_true, decide_eq_true_eq] at hc
  omega
theorem dep_zero_y {l : List Rc} {x y : Int} (h : ∀ z ∈ bys l, z ≤ y) : dep l x y = 0 := by
  rw [dep, List.countP_eq_zero]
  intro r hr hc
  have := h r.2.2 (mem_bys.2 ⟨r, hr, .inr rfl⟩)
  simp only [inC, Bool.and_eq_true, decide_eq_true_eq] at hc
  omega
theorem asc_last {l : List Int} (h : AscG ltI l) {z : Int} (hz : z ∈ l) : z ≤ iA l (l.length - 1) := by
  obtain ⟨j, hj, rfl⟩ := mem_iA hz
  rcases Nat.lt_or_ge j (l.length - 1) with c | c
  · exact Int.le_of_lt (asc_lt h c (by omega))
  · rw [show j = l.length - 1 by omega]; exact Int.le_refl _
/-- The whole grid has the deepest cell where the grid without its last lines has it. -/
theorem best_grid {l : List Rc} {b : Int × (Int × Int)} (hb : 0 ≤ b.1) : ∀ n, bestP (dep l) (grP (bxs l) (bys l) (bys l).length n) b = bestP (dep l) (grP (bxs l) (bys l) ((bys l).length - 1) n) b
  | 0 => rfl
  | n + 1 => by
    rw [grP, grP, bestP_app, bestP_app, best_grid hb n]
    cases hm : (bys l).length with
    | zero => rfl
    | succ m =>
      rw [rowP_succ, bestP_app, Nat.add_sub_cancel]
      refine bestP_zero (bestP_nonneg (bestP_nonneg hb)) fun p hp => ?_
      rw [List.mem_singleton.1 hp]
      refine dep_zero_y fun z hz => ?_
      have := asc_last (asc_bys l) hz
      rw [hm, Nat.add_sub_cancel] at this
      exact this
def maxP (l : List Rc) : Int × (Int × Int) := bestP (dep l) (grP (bxs l) (bys l) (bys l).length (bxs l).length) (0, (0, 0))
def maxC (l : List Rc) : Cl := bestC (celP l) (((0, 0), (0, 0)), 0)
theorem celP_dep {l : List Rc} : ∀ c ∈ celP l, c.2 = (dep l c.1.1.1 c.1.1.2 : Int) := by
  intro c hc
  obtain ⟨i, j, h1, h2, rfl⟩ := (mem_grC _).1 hc
  exact cel_dep (by omega) (by omega)
/-- The program's deepest cell is the reference's. -/
theorem max_eq (l : List Rc) : ((maxC l).2, (maxC l).1.1) = maxP l := by
  unfold maxC maxP
  rw [bestC_bestP (D := dep l) celP_dep, celP, gr_map, ← best_grid (Int.le_refl 0)]
  cases hm : (bxs l).length with
  | zero => rfl
  | succ m =>
    rw [Nat.add_sub_cancel, grP, bestP_app]
    refine (bestP_zero (bestP_nonneg (Int.le_refl 0)) fun p hp => ?_).symm
    simp only [rowP, List.mem_map] at hp
    obtain ⟨j, _, rfl⟩ := hp
    refine dep_zero_x fun z hz => ?_
    have := asc_last (asc_bxs l) hz
    rw [hm, Nat.add_sub_cancel] at this
    exact this
/-! the covered area -/
def areaC (c : Cl) : Int := (c.1.2.1 - c.1.1.1) * (c.1.2.2 - c.1.1.2)
def covC (d : Int) : List Cl → Int
  | [] => 0
  | c :: l => (if d ≤ c.2 then areaC c else 0) + covC d l
theorem area_pos {l : List Rc} : ∀ c ∈ celP l, 0 < areaC c := by
  intro c hc
  obtain ⟨i, j, h1, h2, rfl⟩ := (mem_grC _).1 hc
  have a := asc_lt (asc_bxs l) (i := i) (j := i + 1) (by omega) (by omega)
  have b := asc_lt (asc_bys l) (i := j) (j := j + 1) (by omega) (by omega)
  exact Int.mul_pos (by simp only [cel]; omega) (by simp only [cel]; omega)
theorem cov_nonneg {d : Int} : ∀ {l : List Cl}, (∀ c ∈ l, 0 < areaC c) → 0 ≤ covC d l
  | [], _ => Int.le_refl _
  | c :: l, h => by
    have h1 := h c List.mem_cons_self
    have h2 := cov_nonneg (d := d) fun x hx => h x (List.mem_cons_of_mem _ hx)
    rw [covC]; split <;> omega
theorem cov_pos {d : Int} : ∀ {l : List Cl}, (∀ c ∈ l, 0 < areaC c) → (∃ c ∈ l, d ≤ c.2) → 0 < covC d l
  | [], _, h => by obtain ⟨c, hc, _⟩ := h; cases hc
  | c :: l, h, he => by
    have h1 := h c List.mem_cons_self
    have hl := fun x hx => h x (List.mem_cons_of_mem _ hx)
    have h2 := cov_nonneg (d := d) hl
    rw [covC]
    split
    · omega
    · rename_i hd
      obtain ⟨x, hx, hx2⟩ := he
      rcases List.mem_cons.1 hx with rfl | hx
      · exact absurd hx2 hd
      · have := cov_pos hl ⟨x, hx, hx2⟩; omega
theorem cov_zero {d : Int} : ∀ {l : List Cl}, (∀ c ∈ l, c.2 < d) → covC d l = 0
  | [], _ => rfl
  | c :: l, h => by
    rw [covC, if_neg (by have := h c List.mem_cons_self; omega), cov_zero fun x hx => h x (List.mem_cons_of_mem _ hx)]; rfl
/-- What the law says. -/
theorem max_law {l : List Rc} (h : 1 ≤ (maxC l).2) : (dep l (maxC l).1.1.1 (maxC l).1.1.2 : Int) = (maxC l).2 ∧ 0 < covC (maxC l).2 (celP l) ∧ covC ((maxC l).2 + 1) (celP l) = 0 := by
  obtain ⟨h1, h2, h3⟩ := bestC_facts (celP l) (((0, 0), (0, 0)), 0)
  have hm : maxC l ∈ celP l := by
    rcases h1 with e | e
    · have e : maxC l = _ := e
      rw [e] at h; simp at h
    · exact e
  exact ⟨(celP_dep _ hm).symm, cov_pos area_pos ⟨_, hm, Int.le_refl _⟩, cov_zero fun c hc => by have : c.2 ≤ (maxC l).2 := h3 c hc; omega⟩
end Go.Pl
