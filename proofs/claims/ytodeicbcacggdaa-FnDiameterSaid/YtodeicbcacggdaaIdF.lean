/- The ideal state of a frame, what an operation does to it, and how it stands to the machine's. -/
import Derived.Test.YtodeicbcacggdaaIdE
set_option linter.unusedVariables false
set_option linter.unusedSimpArgs false
namespace Go.Ideal
open Go

structure ISt where
  tm : List (Nat × IV)
  hp : List (Nat × Option IBlk)

def lkT : List (Nat × IV) → Nat → IV
  | [], _ => .junk
  | (j, v) :: l, i => if j = i then v else lkT l i
def lkH : List (Nat × Option IBlk) → Nat → Option IBlk
  | [], _ => none
  | (j, b) :: l, i => if j = i then b else lkH l i

/-- What does not change while a frame runs. A: blocks of others that the frame may never reach by value; B0: blocks that were handed to it to write. -/
structure Fr where
  A : Nat → Prop
  B0 : Nat → Prop
  w0 : World
  N : Nat
  hAB : ∀ b, A b → ¬ B0 b
  hA : ∀ b, A b → b < w0.heap.size
  hB : ∀ b, B0 b → b < w0.heap.size
  μ0 : Nat → Nat
  κ0 : Nat → Nat
  hN : N ≤ 1000

def avOf (F : Fr) (μ : Nat → Nat) (hp : List (Nat × Option IBlk)) : Nat → Prop := fun b => F.A b ∨ ∃ id, lkH hp id ≠ none ∧ μ id = b
def ctx (F : Fr) (μ κ : Nat → Nat) (hp : List (Nat × Option IBlk)) (w : World) : Ctx := ⟨μ, κ, fun id => (lkH hp id).map IBlk.shape, avOf F μ hp, w⟩

structure RepS (F : Fr) (μ κ : Nat → Nat) (s : ISt) (a : Act) (w : World) : Prop where
  defers : a.defers = []
  size : a.tmps.size = F.N
  chg : Chg F.B0 F.w0 w
  inj : ∀ i j, lkH s.hp i ≠ none → lkH s.hp j ≠ none → μ i = μ j → i = j
  own : ∀ id blk, lkH s.hp id = some blk → RepB (ctx F μ κ s.hp w) id blk ∧ ¬ F.A (μ id) ∧ (F.B0 (μ id) ∨ F.w0.heap.size ≤ μ id)
  tmps : ∀ i, RepV (ctx F μ κ s.hp w) (lkT s.tm i) (a.tmps.getD i undef)
  pin : ∀ id, 1000 ≤ id → id < 2000 → μ id = F.μ0 id ∧ κ id = F.κ0 id

section
variable {F : Fr} {μ κ : Nat → Nat} {s : ISt} {a : Act} {w : World}

theorem RepS.hpOK (R : RepS F μ κ s a w) : Hp (ctx F μ κ s.hp w) (lkH s.hp) :=
  ⟨fun _ => rfl, fun id b h => (R.own id b h).1, fun id h => .inr ⟨id, h, rfl⟩⟩

theorem RepS.put (R : RepS F μ κ s a w) {d : Nat} {x : IV} {v : Value} (hv : RepV (ctx F μ κ s.hp w) x v) (hd : d < F.N) : RepS F μ κ ⟨(d, x) :: s.tm, s.hp⟩ (a.put (some d) v) w := by
  refine ⟨R.defers, by simpa [Act.put] using R.size, R.chg, R.inj, R.own, fun i => ?_, R.pin⟩
  simp only [lkT]
  by_cases h : d = i
  · subst h
    have hs : d < a.tmps.size := by rw [R.size]; exact hd
    have e : (a.put (some d) v).tmps.getD d undef = v := by simp [Act.put, Array.getD, hs]
    simp only [if_true, e]
    exact hv
  · simp only [h, if_false]
    have : (a.put (some d) v).tmps.getD i undef = a.tmps.getD i undef := by
      simp only [Act.put, Array.getD_eq_getD_getElem?, Array.getElem?_setIfInBounds]
      rw [if_neg h]
    rw [this]
    exact R.tmps i

theorem RepS.putNone (R : RepS F μ κ s a w) (v : Value) : RepS F μ κ s (a.put none v) w := R

/-- The memory moves on: the slots stay as they are. -/
theorem RepS.move (R : RepS F μ κ s a w) {μ' κ' : Nat → Nat} {hp' : List (Nat × Option IBlk)} {w' : World} (ok : Nat → Prop)
    (hc : Chg F.B0 F.w0 w')
    (hinj : ∀ i j, lkH hp' i ≠ none → lkH hp' j ≠ none → μ' i = μ' j → i = j)
    (hown : ∀ id blk, lkH hp' id = some blk → RepB (ctx F μ' κ' hp' w') id blk ∧ ¬ F.A (μ' id) ∧ (F.B0 (μ' id) ∨ F.w0.heap.size ≤ μ' id))
    (hle : (ctx F μ κ s.hp w).Le (ctx F μ' κ' hp' w') ok) (hok : ∀ i id, (lkT s.tm i).ment id = true → ok id) (hpin : ∀ id, 1000 ≤ id → id < 2000 → μ' id = μ id ∧ κ' id = κ id) :
    RepS F μ' κ' ⟨s.tm, hp'⟩ a w' :=
  ⟨R.defers, R.size, hc, hinj, hown, fun i => RepV.mono hle _ _ (fun id h => hok i id h) (R.tmps i),
    fun id h1 h2 => ⟨(hpin id h1 h2).1.trans (R.pin id h1 h2).1, (hpin id h1 h2).2.trans (R.pin id h1 h2).2⟩⟩

end

/-! ### flattened rows -/

def RepX (c : Ctx) (k : Nat) : List IV → List Value → Prop
  | [], xs => xs = []
  | e :: es, xs => ∃ x r, xs = x.cells.toList ++ r ∧ RepV c e x ∧ EltOk k x ∧ RepX c k es r

section
variable {c : Ctx} {k : Nat}

theorem RepX.length : ∀ {es : List IV} {xs : List Value}, RepX c k es xs → xs.length = es.length * k
  | [], xs, h => by simp [RepX] at h; simp [h]
  | e :: es, xs, h => by
    simp only [RepX] at h
    obtain ⟨x, r, rfl, hx, hk, hr⟩ := h
    have := eltOk_cells hk
    simp [RepX.length hr, Nat.add_mul, hk.1]
    omega

theorem RepX.append : ∀ {es : List IV} {xs : List Value} {es' : List IV} {xs' : List Value}, RepX c k es xs → RepX c k es' xs' → RepX c k (es ++ es') (xs ++ xs')
  | [], xs, es', xs', h, h' => by simp [RepX] at h; simpa [h] using h'
  | e :: es, xs, es', xs', h, h' => by
    simp only [RepX] at h
    obtain ⟨x, r, rfl, hx, hk, hr⟩ := h
    simp only [List.cons_append, RepX]
    exact ⟨x, r ++ xs', by simp, hx, hk, RepX.append hr h'⟩

theorem RepX.one {es : List IV} {xs : List Value} : ∀ {es : List IV} {xs : List Value}, RepX c k es xs → ∀ u ∈ xs, u.oneCell' = true
  | [], xs, h, u, hu => by simp [RepX] at h; simp [h] at hu
  | e :: es, xs, h, u, hu => by
    simp only [RepX] at h
    obtain ⟨x, r, rfl, hx, hk, hr⟩ := h
    rcases List.mem_append.1 hu with hu | hu
    · exact hk.2.1 u hu
    · exact RepX.one (es := es) (xs := r) hr u hu

theorem RepR.toX {b : Nat} : ∀ {es : List IV} {o : Nat}, RepR c k b o es → ∃ xs, RepX c k es xs ∧ ∀ j u, xs[j]? = some u → c.w.cell? ⟨b, o + j, none⟩ = some u
  | [], o, h => ⟨[], by simp [RepX], by simp⟩
  | e :: es, o, h => by
    simp only [RepR] at h
    obtain ⟨⟨x, hx, hk, hc⟩, hr⟩ := h
    obtain ⟨r, hX, hcells⟩ := RepR.toX hr
    refine ⟨x.cells.toList ++ r, ⟨x, r, rfl, hx, hk, hX⟩, fun j u hu => ?_⟩
    have hl := eltOk_cells hk
    by_cases hj : j < k
    · rw [List.getElem?_append_left (by omega)] at hu
      rw [hc j hj]
      simpa using hu
    · rw [List.getElem?_append_right (by omega), hl] at hu
      have := hcells (j - k) u hu
      rwa [show o + k + (j - k) = o + j by omega] at this

theorem RepX.toR {b : Nat} : ∀ {es : List IV} {xs : List Value} {o : Nat}, RepX c k es xs → (∀ j u, xs[j]? = some u → c.w.cell? ⟨b, o + j, none⟩ = some u) → RepR c k b o es
  | [], xs, o, h, hc => by simp [RepR]
  | e :: es, xs, o, h, hc => by
    simp only [RepX] at h
    obtain ⟨x, r, rfl, hx, hk, hr⟩ := h
    have hl := eltOk_cells hk
    simp only [RepR]
    refine ⟨⟨x, hx, hk, fun j hj => ?_⟩, RepX.toR hr (fun j u hu => ?_)⟩
    · have hj' : j < x.cells.toList.length := by omega
      have := hc j (x.cells.toList[j]) (by rw [List.getElem?_append_left hj', List.getElem?_eq_getElem hj'])
      rw [this]
      have hs : j < x.cells.size := by simpa using hj'
      rw [Array.getElem?_eq_getElem hs]
      simp
    · have := hc (k + j) u (by rw [List.getElem?_append_right (by omega), hl]; rwa [show k + j - k = j by omega])
      rwa [show o + (k + j) = o + k + j by omega] at this

theorem RepX.mono {c' : Ctx} {ok : Nat → Prop} (L : c.Le c' ok) : ∀ {es : List IV} {xs : List Value}, (∀ id, IV.mentL id es = true → ok id) → RepX c k es xs → RepX c' k es xs
  | [], xs, m, h => by simpa [RepX] using h
  | e :: es, xs, m, h => by
    simp only [RepX] at h ⊢
    obtain ⟨x, r, hx, hv, hk, hr⟩ := h
    exact ⟨x, r, hx, RepV.mono L e x (fun id hi => m id (by simp [IV.mentL, hi])) hv, hk, RepX.mono L (fun id hi => m id (by simp [IV.mentL, hi])) hr⟩

theorem RepX.take : ∀ {es : List IV} {xs : List Value}, RepX c k es xs → ∀ n, n ≤ es.length → RepX c k (es.take n) (xs.take (n * k))
  | es, xs, h, 0, _ => by simp [RepX]
  | [], xs, h, n + 1, hn => by simp at hn
  | e :: es, xs, h, n + 1, hn => by
    simp only [RepX] at h
    obtain ⟨x, r, rfl, hx, hk, hr⟩ := h
    have hl := eltOk_cells hk
    simp only [List.take_succ_cons, RepX]
    refine ⟨x, r.take (n * k), ?_, hx, hk, RepX.take hr n (by simpa using hn)⟩
    rw [List.take_append, List.take_of_length_le (by rw [hl, Nat.add_mul]; omega), hl, show (n + 1) * k - k = n * k by rw [Nat.add_mul]; omega]

end

/-- An element that may be laid into a row of elements of k cells. -/
def oneI : IV → Bool
  | .agg _ | .tup _ | .junk | .opt _ _ => false
  | _ => true
def eltI (k : Nat) : IV → Prop
  | .agg l => l.length = k ∧ 2 ≤ k ∧ l.all oneI = true
  | .num _ _ | .bool _ | .str _ | .sl _ _ | .nils => k = 1
  | _ => False
def noId' : IV → Bool
  | .num _ _ | .bool _ | .str _ | .sl _ _ | .nils => true
  | .agg l => l.all fun x => match x with | .num _ _ | .bool _ | .str _ | .sl _ _ | .nils => true | _ => false
  | _ => false

theorem oneI_one {c : Ctx} {x : IV} {v : Value} (hx : RepV c x v) (h : oneI x = true) : v.oneCell' = true := by
  cases x <;> simp [oneI] at h <;> simp only [RepV] at hx
  case num => subst hx; rfl
  case bool => subst hx; rfl
  case str => subst hx; rfl
  case sl => obtain ⟨a, n, cp, rfl, _⟩ := hx; rfl
  case nils => subst hx; rfl
  case nilp => subst hx; rfl
  case nilI => subst hx; rfl
  case ptr => obtain ⟨a, rfl, _⟩ := hx; rfl
  case aptr => obtain ⟨a, rfl, _⟩ := hx; rfl
  case eptr => obtain ⟨b, o, y, rfl, _⟩ := hx; rfl
  case ref => obtain ⟨a, cp, rfl, _⟩ := hx; rfl
  case clo => obtain ⟨cs, rfl, _⟩ := hx; rfl
  case ifc => obtain ⟨t, y, rfl⟩ := hx; rfl
  case anyB => obtain ⟨b, rfl⟩ := hx; rfl

theorem all_one {c : Ctx} : ∀ {l : List IV} {vs : List Value}, RepL c l vs → l.all oneI = true → ∀ u ∈ vs, u.oneCell' = true
  | [], vs, h, _, u, hu => by simp [RepL] at h; simp [h] at hu
  | x :: l, vs, h, ha, u, hu => by
    simp only [RepL] at h
    obtain ⟨v, r, rfl, hx, hl⟩ := h
    simp only [List.all_cons, Bool.and_eq_true] at ha
    rcases List.mem_cons.1 hu with rfl | hu
    · exact oneI_one hx ha.1
    · exact all_one hl ha.2 u hu

theorem eltI_ok {c : Ctx} {k : Nat} {x : IV} {v : Value} (hx : RepV c x v) (h : eltI k x) : EltOk k v := by
  have one : ∀ u : Value, v = u → u.cells = #[u] → isAggV u = false → u.oneCell' = true → k = 1 → EltOk k v := by
    intro u hu hc ha h1 hk
    subst hu hk
    exact ⟨by rw [hc]; rfl, by rw [hc]; simpa using h1, by simp [ha], Nat.le_refl _⟩
  cases x <;> simp only [eltI] at h <;> simp only [RepV] at hx
  case num => exact one _ hx rfl rfl rfl h
  case bool => exact one _ hx rfl rfl rfl h
  case str => exact one _ hx rfl rfl rfl h
  case nils => exact one _ hx rfl rfl rfl h
  case sl => obtain ⟨a, n, cp, rfl, _⟩ := hx; exact one _ rfl rfl rfl rfl h
  case agg l =>
    obtain ⟨vs, rfl, hl⟩ := hx
    obtain ⟨h1, h2, h3⟩ := h
    exact ⟨by simp [Value.cells, hl.length, h1], by simpa [Value.cells] using all_one hl h3, by simp [isAggV, h2], by omega⟩

end Go.Ideal
