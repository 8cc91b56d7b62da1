/- The ideal values: what a frame's slots and the memory hold, said without addresses. Plain definitions and how they persist. -/
import Derived.WalkKit
import Derived.Orders
set_option linter.unusedVariables false
set_option linter.unusedSimpArgs false
namespace Go.Ideal
open Go

inductive IV where
  | junk
  | num (k : IntKind) (n : Int)
  | bool (b : Bool)
  | str (s : ByteArray)
  | agg (l : List IV)
  | tup (l : List IV)
  | sl (k : Nat) (es : List IV)
  | nils
  | nilp
  | nilI
  | ptr (id off : Nat)
  | aptr (id i off : Nat)
  | eptr (k : Nat) (e : IV) (off : Nat)
  | ref (id off n : Nat) (full : Bool)
  | clo (g : FuncId) (caps : List IV)
  | opt (b : Bool) (v : IV)
  | ifc
  | anyB
  deriving Inhabited

inductive IBlk where
  | box (ty : TypeId) (cells : List IV)
  | arr (k : Nat) (ty : TypeId) (es : List IV)
  deriving Inhabited

/-- How a block is laid: 0 a variable, k an array of elements of k cells. -/
def IBlk.shape : IBlk → Nat
  | .box _ _ => 0
  | .arr k _ _ => k

def isAggV : Value → Bool
  | .agg _ => true
  | _ => false

/-- A value that lies in a row of elements of k cells. -/
def EltOk (k : Nat) (x : Value) : Prop := x.cells.size = k ∧ (∀ u ∈ x.cells.toList, u.oneCell' = true) ∧ isAggV x = decide (2 ≤ k) ∧ 1 ≤ k

/- Is an id named in a value? A by-value slice and a pointer into one name none. -/
mutual
def IV.ment (id : Nat) : IV → Bool
  | .agg l => IV.mentL id l
  | .tup l => IV.mentL id l
  | .ptr i _ => i == id
  | .aptr i _ _ => i == id
  | .ref i _ _ _ => i == id
  | .clo _ caps => IV.mentL id caps
  | .opt _ v => IV.ment id v
  | _ => false
def IV.mentL (id : Nat) : List IV → Bool
  | [] => false
  | x :: l => IV.ment id x || IV.mentL id l
end

def noId (x : IV) : Prop := ∀ id, x.ment id = false
def noIdL (l : List IV) : Prop := ∀ id, IV.mentL id l = false

structure Ctx where
  μ : Nat → Nat
  κ : Nat → Nat
  sh : Nat → Option Nat
  av : Nat → Prop
  w : World

mutual
def RepV (c : Ctx) : IV → Value → Prop
  | .junk, _ => True
  | .num k n, v => v = .int k n
  | .bool b, v => v = .bool b
  | .str s, v => v = .string s
  | .agg l, v => ∃ vs, v = .agg ⟨vs⟩ ∧ RepL c l vs
  | .tup l, v => ∃ vs, v = .tuple ⟨vs⟩ ∧ RepL c l vs
  | .sl k es, v => ∃ a n cp, v = .slice a n cp ∧ n = es.length ∧ n ≤ cp ∧ cp ≤ maxLen ∧ (a = none → cp = 0) ∧ noIdL es ∧ (0 < n → ∃ b o, a = some ⟨b, o, none⟩ ∧ ¬ c.av b ∧ b < c.w.heap.size ∧ RepR c k b o es)
  | .nils, v => v = .slice none 0 0
  | .nilp, v => v = .pointer none
  | .nilI, v => v = .nilIface
  | .ptr id off, v => ∃ a, v = .pointer (some a) ∧ (c.sh id = some 0 → a = ⟨c.μ id, off, none⟩)
  | .aptr id i off, v => ∃ a, v = .pointer (some a) ∧ ∀ k, 0 < k → c.sh id = some k → a = ⟨c.μ id, i * k + off, none⟩
  | .eptr k e off, v => ∃ b o x, v = .pointer (some ⟨b, o + off, none⟩) ∧ ¬ c.av b ∧ b < c.w.heap.size ∧ noId e ∧ RepV c e x ∧ EltOk k x ∧ (∀ j, j < k → c.w.cell? ⟨b, o + j, none⟩ = x.cells[j]?)
  | .ref id off n full, v => ∃ a cp, v = .slice a n cp ∧ (a = none → cp = 0) ∧ ∀ k, 0 < k → c.sh id = some k → n ≤ cp ∧ off + cp ≤ c.κ id ∧ (full = true → off + cp = c.κ id) ∧ ((0 < n ∨ off = 0) → a = some ⟨c.μ id, off * k, none⟩)
  | .clo g caps, v => ∃ cs, v = .func (.func g) #[] ⟨cs⟩ ∧ RepL c caps cs
  | .opt b x, v => (b = true → RepV c x v) ∧ (b = false → v = undef)
  | .ifc, v => ∃ t x, v = .iface t x
  | .anyB, v => ∃ b, v = .bool b
def RepL (c : Ctx) : List IV → List Value → Prop
  | [], vs => vs = []
  | x :: l, vs => ∃ v r, vs = v :: r ∧ RepV c x v ∧ RepL c l r
def RepR (c : Ctx) (k b o : Nat) : List IV → Prop
  | [] => True
  | e :: es => (∃ x, RepV c e x ∧ EltOk k x ∧ ∀ j, j < k → c.w.cell? ⟨b, o + j, none⟩ = x.cells[j]?) ∧ RepR c k b (o + k) es
end

structure Chg (B : Nat → Prop) (w w' : World) : Prop where
  os : w'.os = w.os
  tape : w'.tape = w.tape
  output : w'.output = w.output
  size : w.heap.size ≤ w'.heap.size
  block : ∀ b, b < w.heap.size → ¬ B b → w'.heap[b]? = w.heap[b]?
  drawn : w.drawn ≤ w'.drawn

theorem Chg.refl (B : Nat → Prop) (w : World) : Chg B w w := ⟨rfl, rfl, rfl, Nat.le_refl _, fun _ _ _ => rfl, Nat.le_refl _⟩
theorem Chg.trans {B B' B'' : Nat → Prop} {a b c : World} (h : Chg B a b) (k : Chg B' b c) (hB : ∀ x, B x → B'' x) (hB' : ∀ x, x < a.heap.size → B' x → B'' x) : Chg B'' a c :=
  ⟨k.os.trans h.os, k.tape.trans h.tape, k.output.trans h.output, Nat.le_trans h.size k.size, fun i hi hn =>
    (k.block i (Nat.lt_of_lt_of_le hi h.size) (fun hb => hn (hB' i hi hb))).trans (h.block i hi (fun hb => hn (hB i hb))), Nat.le_trans h.drawn k.drawn⟩
theorem Chg.mono {B B' : Nat → Prop} {a b : World} (h : Chg B a b) (hB : ∀ x, x < a.heap.size → B x → B' x) : Chg B' a b :=
  ⟨h.os, h.tape, h.output, h.size, fun i hi hn => h.block i hi (fun hb => hn (hB i hi hb)), h.drawn⟩
theorem Chg.cell {B : Nat → Prop} {w w' : World} (h : Chg B w w') {b o : Nat} (hb : b < w.heap.size) (hn : ¬ B b) : w'.cell? ⟨b, o, none⟩ = w.cell? ⟨b, o, none⟩ :=
  World.cell?_of_block (h.block b hb hn)
theorem Chg.drew {B : Nat → Prop} {w w' : World} (h : Chg B w w') : Chg B w w'.drew := ⟨h.os, h.tape, h.output, h.size, h.block, Nat.le_succ_of_le h.drawn⟩
theorem Chg.of_alloc (B : Nat → Prop) (w : World) (o : Obj) : Chg B w (w.alloc o) :=
  ⟨rfl, rfl, rfl, by simp, fun b hb _ => RowKit.Below.heap_alloc w o b hb, Nat.le_refl _⟩

/-- What persists of a context: the ids that are mentioned, the memory that is not given up. -/
structure Ctx.Le (c c' : Ctx) (ok : Nat → Prop) : Prop where
  ids : ∀ id, ok id → c'.sh id = none ∨ (c'.sh id = c.sh id ∧ c'.μ id = c.μ id ∧ c'.κ id = c.κ id)
  av : ∀ b, b < c.w.heap.size → c'.av b → c.av b
  size : c.w.heap.size ≤ c'.w.heap.size
  cell : ∀ b o, b < c.w.heap.size → ¬ c.av b → c'.w.cell? ⟨b, o, none⟩ = c.w.cell? ⟨b, o, none⟩

theorem lt_of_cell {w : World} {b o : Nat} {v : Value} (h : w.cell? ⟨b, o, none⟩ = some v) : b < w.heap.size := World.block_lt_of_cell? w ⟨b, o, none⟩ h

mutual
theorem RepV.mono {c c' : Ctx} {ok : Nat → Prop} (L : c.Le c' ok) : ∀ (x : IV) (v : Value), (∀ id, x.ment id = true → ok id) → RepV c x v → RepV c' x v
  | .junk, _, _, _ => by simp [RepV]
  | .num _ _, _, _, h => by simpa [RepV] using h
  | .bool _, _, _, h => by simpa [RepV] using h
  | .str _, _, _, h => by simpa [RepV] using h
  | .agg l, v, m, h => by
    simp only [RepV] at h ⊢
    obtain ⟨vs, hv, hl⟩ := h
    exact ⟨vs, hv, RepL.mono L l vs (fun id hi => m id (by simpa [IV.ment] using hi)) hl⟩
  | .tup l, v, m, h => by
    simp only [RepV] at h ⊢
    obtain ⟨vs, hv, hl⟩ := h
    exact ⟨vs, hv, RepL.mono L l vs (fun id hi => m id (by simpa [IV.ment] using hi)) hl⟩
  | .sl k es, v, m, h => by
    simp only [RepV] at h ⊢
    obtain ⟨a, n, cp, hv, hn, hc, hm, han, hno, hr⟩ := h
    refine ⟨a, n, cp, hv, hn, hc, hm, han, hno, fun h0 => ?_⟩
    obtain ⟨b, o, ha, hav, hb, hR⟩ := hr h0
    exact ⟨b, o, ha, fun hh => hav (L.av b hb hh), Nat.lt_of_lt_of_le hb L.size,
      RepR.mono L k b o hb hav es (fun id hi => by rw [hno id] at hi; cases hi) hR⟩
  | .nils, _, _, h => by simpa [RepV] using h
  | .nilp, _, _, h => by simpa [RepV] using h
  | .nilI, _, _, h => by simpa [RepV] using h
  | .ptr id off, v, m, h => by
    simp only [RepV] at h ⊢
    obtain ⟨a, hv, h⟩ := h
    refine ⟨a, hv, fun hs => ?_⟩
    rcases L.ids id (m id (by simp [IV.ment])) with h0 | ⟨h1, h2, h3⟩
    · rw [h0] at hs; cases hs
    · rw [h2]; exact h (h1 ▸ hs)
  | .aptr id i off, v, m, h => by
    simp only [RepV] at h ⊢
    obtain ⟨a, hv, h⟩ := h
    refine ⟨a, hv, fun k hk hs => ?_⟩
    rcases L.ids id (m id (by simp [IV.ment])) with h0 | ⟨h1, h2, h3⟩
    · rw [h0] at hs; cases hs
    · rw [h2]; exact h k hk (h1 ▸ hs)
  | .eptr k e off, v, m, h => by
    simp only [RepV] at h ⊢
    obtain ⟨b, o, x, hv, hav, hb, hno, hx, hk, hc⟩ := h
    exact ⟨b, o, x, hv, fun hh => hav (L.av b hb hh), Nat.lt_of_lt_of_le hb L.size, hno, RepV.mono L e x (fun id hi => by rw [hno id] at hi; cases hi) hx, hk,
      fun j hj => (L.cell b _ hb hav).trans (hc j hj)⟩
  | .ref id off n full, v, m, h => by
    simp only [RepV] at h ⊢
    obtain ⟨a, cp, hv, han, h⟩ := h
    refine ⟨a, cp, hv, han, fun k hk hs => ?_⟩
    rcases L.ids id (m id (by simp [IV.ment])) with h0 | ⟨h1, h2, h3⟩
    · rw [h0] at hs; cases hs
    · rw [h2, h3]; exact h k hk (h1 ▸ hs)
  | .clo g caps, v, m, h => by
    simp only [RepV] at h ⊢
    obtain ⟨vs, hv, hl⟩ := h
    exact ⟨vs, hv, RepL.mono L caps vs (fun id hi => m id (by simpa [IV.ment] using hi)) hl⟩
  | .opt b x, v, m, h => by
    simp only [RepV] at h ⊢
    exact ⟨fun hb => RepV.mono L x v (fun id hi => m id (by simpa [IV.ment] using hi)) (h.1 hb), h.2⟩
  | .ifc, _, _, h => by simpa [RepV] using h
  | .anyB, _, _, h => by simpa [RepV] using h
theorem RepL.mono {c c' : Ctx} {ok : Nat → Prop} (L : c.Le c' ok) : ∀ (l : List IV) (vs : List Value), (∀ id, IV.mentL id l = true → ok id) → RepL c l vs → RepL c' l vs
  | [], _, _, h => by simpa [RepL] using h
  | x :: l, vs, m, h => by
    simp only [RepL] at h ⊢
    obtain ⟨v, r, hv, hx, hl⟩ := h
    exact ⟨v, r, hv, RepV.mono L x v (fun id hi => m id (by simp [IV.mentL, hi])) hx, RepL.mono L l r (fun id hi => m id (by simp [IV.mentL, hi])) hl⟩
theorem RepR.mono {c c' : Ctx} {ok : Nat → Prop} (L : c.Le c' ok) (k b o : Nat) (hb : b < c.w.heap.size) (hav : ¬ c.av b) : ∀ (l : List IV), (∀ id, IV.mentL id l = true → ok id) → RepR c k b o l → RepR c' k b o l
  | [], _, _ => by simp [RepR]
  | e :: l, m, h => by
    simp only [RepR] at h ⊢
    obtain ⟨⟨x, hx, hk, hc⟩, hl⟩ := h
    exact ⟨⟨x, RepV.mono L e x (fun id hi => m id (by simp [IV.mentL, hi])) hx, hk, fun j hj => (L.cell b _ hb hav).trans (hc j hj)⟩,
      RepR.mono L k b (o + k) hb hav l (fun id hi => m id (by simp [IV.mentL, hi])) hl⟩
end

end Go.Ideal
