/- Ideal values, an evaluator of operations over them, and how both persist. -/
import Derived.WalkKit
import Derived.Orders
import Derived.Laws.Cover3

/- The ideal values: what a frame's slots and the memory hold, said without addresses. Plain definitions and how they persist. -/
set_option linter.unusedVariables false
set_option linter.unusedSimpArgs false
namespace Go.Ideal
open Go

inductive IV where
  | junk
  | num (k : IntKind) (n : Int)
  | bool (b : Bool)
  | str (s : ByteArray)
  | agg (l : List IV)
  | tup (l : List IV)
  | sl (k : Nat) (es : List IV)
  | nils
  | nilp
  | nilI
  | ptr (id off : Nat)
  | aptr (id i off : Nat)
  | eptr (k : Nat) (e : IV) (off : Nat)
  | ref (id off n : Nat) (full : Bool)
  | clo (g : FuncId) (caps : List IV)
  | opt (b : Bool) (v : IV)
  | ifc
  | anyB
  | lsl (a : Option Addr) (n cp : Nat)
  deriving Inhabited

inductive IBlk where
  | box (ty : TypeId) (cells : List IV)
  | arr (k : Nat) (ty : TypeId) (es : List IV)
  deriving Inhabited

/-- How a block is laid: 0 a variable, k an array of elements of k cells. -/
def IBlk.shape : IBlk → Nat
  | .box _ _ => 0
  | .arr k _ _ => k

def isAggV : Value → Bool
  | .agg _ => true
  | _ => false

/-- A value that lies in a row of elements of k cells. -/
def EltOk (k : Nat) (x : Value) : Prop := x.cells.size = k ∧ (∀ u ∈ x.cells.toList, u.oneCell' = true) ∧ isAggV x = decide (2 ≤ k) ∧ 1 ≤ k

/- Is an id named in a value? A by-value slice and a pointer into one name none. -/
mutual
def IV.ment (id : Nat) : IV → Bool
  | .agg l => IV.mentL id l
  | .tup l => IV.mentL id l
  | .ptr i _ => i == id
  | .aptr i _ _ => i == id
  | .ref i _ _ _ => i == id
  | .clo _ caps => IV.mentL id caps
  | .opt _ v => IV.ment id v
  | _ => false
def IV.mentL (id : Nat) : List IV → Bool
  | [] => false
  | x :: l => IV.ment id x || IV.mentL id l
end

def noId (x : IV) : Prop := ∀ id, x.ment id = false
def noIdL (l : List IV) : Prop := ∀ id, IV.mentL id l = false

structure Ctx where
  μ : Nat → Nat
  κ : Nat → Nat
  sh : Nat → Option Nat
  av : Nat → Prop
  w : World

mutual
def RepV (c : Ctx) : IV → Value → Prop
  | .junk, _ => True
  | .num k n, v => v = .int k n
  | .bool b, v => v = .bool b
  | .str s, v => v = .string s
  | .agg l, v => ∃ vs, v = .agg ⟨vs⟩ ∧ RepL c l vs
  | .tup l, v => ∃ vs, v = .tuple ⟨vs⟩ ∧ RepL c l vs
  | .sl k es, v => ∃ a n cp, v = .slice a n cp ∧ n = es.length ∧ n ≤ cp ∧ cp ≤ maxLen ∧ (a = none → cp = 0) ∧ noIdL es ∧ (0 < n → ∃ b o, a = some ⟨b, o, none⟩ ∧ ¬ c.av b ∧ b < c.w.heap.size ∧ RepR c k b o es)
  | .nils, v => v = .slice none 0 0
  | .nilp, v => v = .pointer none
  | .nilI, v => v = .nilIface
  | .ptr id off, v => ∃ a, v = .pointer (some a) ∧ (c.sh id = some 0 → a = ⟨c.μ id, off, none⟩)
  | .aptr id i off, v => ∃ a, v = .pointer (some a) ∧ ∀ k, 0 < k → c.sh id = some k → a = ⟨c.μ id, i * k + off, none⟩
  | .eptr k e off, v => ∃ b o x, v = .pointer (some ⟨b, o + off, none⟩) ∧ ¬ c.av b ∧ b < c.w.heap.size ∧ noId e ∧ RepV c e x ∧ EltOk k x ∧ (∀ j, j < k → c.w.cell? ⟨b, o + j, none⟩ = x.cells[j]?)
  | .ref id off n full, v => ∃ a cp, v = .slice a n cp ∧ (a = none → cp = 0) ∧ ∀ k, 0 < k → c.sh id = some k → n ≤ cp ∧ off + cp ≤ c.κ id ∧ (full = true → off + cp = c.κ id) ∧ ((0 < n ∨ off = 0) → a = some ⟨c.μ id, off * k, none⟩)
  | .clo g caps, v => ∃ cs, v = .func (.func g) #[] ⟨cs⟩ ∧ RepL c caps cs
  | .opt b x, v => (b = true → RepV c x v) ∧ (b = false → v = undef)
  | .ifc, v => ∃ t x, v = .iface t x
  | .anyB, v => ∃ b, v = .bool b
  | .lsl a n cp, v => v = .slice a n cp
def RepL (c : Ctx) : List IV → List Value → Prop
  | [], vs => vs = []
  | x :: l, vs => ∃ v r, vs = v :: r ∧ RepV c x v ∧ RepL c l r
def RepR (c : Ctx) (k b o : Nat) : List IV → Prop
  | [] => True
  | e :: es => (∃ x, RepV c e x ∧ EltOk k x ∧ ∀ j, j < k → c.w.cell? ⟨b, o + j, none⟩ = x.cells[j]?) ∧ RepR c k b (o + k) es
end

/-- No less is drawn. -/
def Later (w w' : World) : Prop := w.drawn ≤ w'.drawn
theorem Later.of {a b : World} (h : a.drawn ≤ b.drawn) : Later a b := h
theorem Later.refl (w : World) : Later w w := Nat.le_refl _
theorem Later.trans {a b c : World} (h : Later a b) (k : Later b c) : Later a c := Nat.le_trans h k
theorem Later.succ {a b : World} (h : Later a b) : Later a { b with drawn := b.drawn + 1 } := Nat.le_succ_of_le h

structure Chg (B : Nat → Prop) (w w' : World) : Prop where
  os : w'.os = w.os
  tape : w'.tape = w.tape
  output : w'.output = w.output
  size : w.heap.size ≤ w'.heap.size
  block : ∀ b, b < w.heap.size → ¬ B b → w'.heap[b]? = w.heap[b]?
  drawn : Later w w'

theorem Chg.refl (B : Nat → Prop) (w : World) : Chg B w w := ⟨rfl, rfl, rfl, Nat.le_refl _, fun _ _ _ => rfl, Later.refl _⟩
theorem Chg.trans {B B' B'' : Nat → Prop} {a b c : World} (h : Chg B a b) (k : Chg B' b c) (hB : ∀ x, B x → B'' x) (hB' : ∀ x, x < a.heap.size → B' x → B'' x) : Chg B'' a c :=
  ⟨k.os.trans h.os, k.tape.trans h.tape, k.output.trans h.output, Nat.le_trans h.size k.size, fun i hi hn =>
    (k.block i (Nat.lt_of_lt_of_le hi h.size) (fun hb => hn (hB' i hi hb))).trans (h.block i hi (fun hb => hn (hB i hb))), Later.trans h.drawn k.drawn⟩
theorem Chg.mono {B B' : Nat → Prop} {a b : World} (h : Chg B a b) (hB : ∀ x, x < a.heap.size → B x → B' x) : Chg B' a b :=
  ⟨h.os, h.tape, h.output, h.size, fun i hi hn => h.block i hi (fun hb => hn (hB i hi hb)), h.drawn⟩
theorem Chg.cell {B : Nat → Prop} {w w' : World} (h : Chg B w w') {b o : Nat} (hb : b < w.heap.size) (hn : ¬ B b) : w'.cell? ⟨b, o, none⟩ = w.cell? ⟨b, o, none⟩ :=
  World.cell?_of_block (h.block b hb hn)
theorem Chg.drew {B : Nat → Prop} {w w' : World} (h : Chg B w w') : Chg B w w'.drew := ⟨h.os, h.tape, h.output, h.size, h.block, Later.succ h.drawn⟩
theorem Chg.of_alloc (B : Nat → Prop) (w : World) (o : Obj) : Chg B w (w.alloc o) :=
  ⟨rfl, rfl, rfl, by simp, fun b hb _ => RowKit.Below.heap_alloc w o b hb, Later.refl w⟩

/-- What persists of a context: the ids that are mentioned, the memory that is not given up. -/
structure Ctx.Le (c c' : Ctx) (ok : Nat → Prop) : Prop where
  ids : ∀ id, ok id → c'.sh id = none ∨ (c'.sh id = c.sh id ∧ c'.μ id = c.μ id ∧ c'.κ id = c.κ id)
  av : ∀ b, b < c.w.heap.size → c'.av b → c.av b
  size : c.w.heap.size ≤ c'.w.heap.size
  cell : ∀ b o, b < c.w.heap.size → ¬ c.av b → c'.w.cell? ⟨b, o, none⟩ = c.w.cell? ⟨b, o, none⟩

theorem lt_of_cell {w : World} {b o : Nat} {v : Value} (h : w.cell? ⟨b, o, none⟩ = some v) : b < w.heap.size := World.block_lt_of_cell? w ⟨b, o, none⟩ h

mutual
theorem RepV.mono {c c' : Ctx} {ok : Nat → Prop} (L : c.Le c' ok) : ∀ (x : IV) (v : Value), (∀ id, x.ment id = true → ok id) → RepV c x v → RepV c' x v
  | .junk, _, _, _ => by simp [RepV]
  | .num _ _, _, _, h => by simpa [RepV] using h
  | .bool _, _, _, h => by simpa [RepV] using h
  | .str _, _, _, h => by simpa [RepV] using h
  | .agg l, v, m, h => by
    simp only [RepV] at h ⊢
    obtain ⟨vs, hv, hl⟩ := h
    exact ⟨vs, hv, RepL.mono L l vs (fun id hi => m id (by simpa [IV.ment] using hi)) hl⟩
  | .tup l, v, m, h => by
    simp only [RepV] at h ⊢
    obtain ⟨vs, hv, hl⟩ := h
    exact ⟨vs, hv, RepL.mono L l vs (fun id hi => m id (by simpa [IV.ment] using hi)) hl⟩
  | .sl k es, v, m, h => by
    simp only [RepV] at h ⊢
    obtain ⟨a, n, cp, hv, hn, hc, hm, han, hno, hr⟩ := h
    refine ⟨a, n, cp, hv, hn, hc, hm, han, hno, fun h0 => ?_⟩
    obtain ⟨b, o, ha, hav, hb, hR⟩ := hr h0
    exact ⟨b, o, ha, fun hh => hav (L.av b hb hh), Nat.lt_of_lt_of_le hb L.size,
      RepR.mono L k b o hb hav es (fun id hi => by rw [hno id] at hi; cases hi) hR⟩
  | .nils, _, _, h => by simpa [RepV] using h
  | .nilp, _, _, h => by simpa [RepV] using h
  | .nilI, _, _, h => by simpa [RepV] using h
  | .ptr id off, v, m, h => by
    simp only [RepV] at h ⊢
    obtain ⟨a, hv, h⟩ := h
    refine ⟨a, hv, fun hs => ?_⟩
    rcases L.ids id (m id (by simp [IV.ment])) with h0 | ⟨h1, h2, h3⟩
    · rw [h0] at hs; cases hs
    · rw [h2]; exact h (h1 ▸ hs)
  | .aptr id i off, v, m, h => by
    simp only [RepV] at h ⊢
    obtain ⟨a, hv, h⟩ := h
    refine ⟨a, hv, fun k hk hs => ?_⟩
    rcases L.ids id (m id (by simp [IV.ment])) with h0 | ⟨h1, h2, h3⟩
    · rw [h0] at hs; cases hs
    · rw [h2]; exact h k hk (h1 ▸ hs)
  | .eptr k e off, v, m, h => by
    simp only [RepV] at h ⊢
    obtain ⟨b, o, x, hv, hav, hb, hno, hx, hk, hc⟩ := h
    exact ⟨b, o, x, hv, fun hh => hav (L.av b hb hh), Nat.lt_of_lt_of_le hb L.size, hno, RepV.mono L e x (fun id hi => by rw [hno id] at hi; cases hi) hx, hk,
      fun j hj => (L.cell b _ hb hav).trans (hc j hj)⟩
  | .ref id off n full, v, m, h => by
    simp only [RepV] at h ⊢
    obtain ⟨a, cp, hv, han, h⟩ := h
    refine ⟨a, cp, hv, han, fun k hk hs => ?_⟩
    rcases L.ids id (m id (by simp [IV.ment])) with h0 | ⟨h1, h2, h3⟩
    · rw [h0] at hs; cases hs
    · rw [h2, h3]; exact h k hk (h1 ▸ hs)
  | .clo g caps, v, m, h => by
    simp only [RepV] at h ⊢
    obtain ⟨vs, hv, hl⟩ := h
    exact ⟨vs, hv, RepL.mono L caps vs (fun id hi => m id (by simpa [IV.ment] using hi)) hl⟩
  | .opt b x, v, m, h => by
    simp only [RepV] at h ⊢
    exact ⟨fun hb => RepV.mono L x v (fun id hi => m id (by simpa [IV.ment] using hi)) (h.1 hb), h.2⟩
  | .ifc, _, _, h => by simpa [RepV] using h
  | .anyB, _, _, h => by simpa [RepV] using h
  | .lsl _ _ _, _, _, h => by simpa [RepV] using h
theorem RepL.mono {c c' : Ctx} {ok : Nat → Prop} (L : c.Le c' ok) : ∀ (l : List IV) (vs : List Value), (∀ id, IV.mentL id l = true → ok id) → RepL c l vs → RepL c' l vs
  | [], _, _, h => by simpa [RepL] using h
  | x :: l, vs, m, h => by
    simp only [RepL] at h ⊢
    obtain ⟨v, r, hv, hx, hl⟩ := h
    exact ⟨v, r, hv, RepV.mono L x v (fun id hi => m id (by simp [IV.mentL, hi])) hx, RepL.mono L l r (fun id hi => m id (by simp [IV.mentL, hi])) hl⟩
theorem RepR.mono {c c' : Ctx} {ok : Nat → Prop} (L : c.Le c' ok) (k b o : Nat) (hb : b < c.w.heap.size) (hav : ¬ c.av b) : ∀ (l : List IV), (∀ id, IV.mentL id l = true → ok id) → RepR c k b o l → RepR c' k b o l
  | [], _, _ => by simp [RepR]
  | e :: l, m, h => by
    simp only [RepR] at h ⊢
    obtain ⟨⟨x, hx, hk, hc⟩, hl⟩ := h
    exact ⟨⟨x, RepV.mono L e x (fun id hi => m id (by simp [IV.mentL, hi])) hx, hk, fun j hj => (L.cell b _ hb hav).trans (hc j hj)⟩,
      RepR.mono L k b (o + k) hb hav l (fun id hi => m id (by simp [IV.mentL, hi])) hl⟩
end

end Go.Ideal

/- The evaluator of the operations that make nothing: its value and what it asks. -/
set_option linter.unusedVariables false
set_option linter.unusedSimpArgs false
namespace Go.Ideal
open Go

/-- What is known of a type. -/
structure TD where
  on : Bool := true
  size : Nat := 1
  bytes : Nat := 8
  ik : Option IntKind := none
  bl : Bool := false
  st : Bool := false
  offs : List (Nat × Nat) := []
  elem : Nat := 0
  zero : List IV := []
  eqb : Bool := false
  alen : Nat := 0
  aelem : Nat := 0
  aoffs : List (Nat × Nat) := []
  ifc : Bool := false
  deriving Inhabited

/-- The empty context: nothing is known; what holds here holds in each. -/
def freeOK (l : List IV) (vs : List Value) : Prop := ∀ c, RepL c l vs

def eqL : List IV → List IV → Bool
  | .num _ a :: l, .num _ b :: l' => (a == b) && eqL l l'
  | [], [] => true
  | _, _ => false
def numsOnly : List IV → Bool
  | .num .i64 _ :: l => numsOnly l
  | [] => true
  | _ => false

structure TyOK (P : Program) (t : TypeId) (d : TD) : Prop where
  info : ∃ i z, P.info? t = some i ∧ i.size = d.size ∧ i.bytes = d.bytes ∧ i.zero = some z ∧ EltOk d.size z ∧ freeOK d.zero z.cells.toList
  agg : ∀ w, (isAgg t).run P w = .ok (decide (2 ≤ d.size)) w
  slice : d.elem ≠ 0 → P.underlying t = some (.slice d.elem)
  field : ∀ (i o s : Nat), d.offs[i]? = some (o, s) → ∃ (fs : Array Field) (f : Field), P.underlying t = some (.struct fs) ∧ fs[i]? = some f ∧ f.offset = o ∧ s ≠ 0 ∧ (∀ w, (sizeOf f.type).run P w = .ok s w) ∧ (∀ w, (isAgg f.type).run P w = .ok (decide (2 ≤ s)) w) ∧ fs.size = d.offs.length
  int : ∀ k, d.ik = some k → P.underlying t = some (.int k)
  bool : d.bl = true → P.underlying t = some .bool
  str : d.st = true → P.underlying t = some .string
  places : d.offs ≠ [] → ∃ (fs : Array Field), P.underlying t = some (.struct fs) ∧ ∀ w, (fs.mapM fun (f : Field) => (do pure (f.offset, ← sizeOf f.type) : Sem (Nat × Nat))).run P w = .ok (⟨d.offs⟩ : Array (Nat × Nat)) w
  eqg : d.eqb = true → ∀ (op : BinOp) (x y : Operand) (xs ys : List Int) (w : World), xs.length = d.size → ys.length = d.size →
    (eqGuard op t x y (.agg ⟨xs.map (Value.int .i64)⟩) (.agg ⟨ys.map (Value.int .i64)⟩)).run P w = .ok () w ∧
    (Op.equal t (.agg ⟨xs.map (Value.int .i64)⟩) (.agg ⟨ys.map (Value.int .i64)⟩)).run P w = .ok (decide (xs = ys)) w
  arr : d.alen ≠ 0 → P.underlying t = some (.array d.alen d.aelem) ∧ (∀ w, (sizeOf d.aelem).run P w = .ok 1 w) ∧ d.aoffs = (List.range d.alen).map fun i => (i, 1)
  ifc : d.ifc = true → ∃ ms, P.underlying t = some (.interface ms)

theorem TyOK.size {P : Program} {t : TypeId} {d : TD} (h : TyOK P t d) (w : World) : (sizeOf t).run P w = .ok d.size w := by
  obtain ⟨i, z, hi, hs, _⟩ := h.info
  simp [sizeOf, typeInfo, hi, hs]

def TOK (P : Program) (T : Nat → TD) : Prop := ∀ t, (T t).on = true → TyOK P t (T t)

def IV.cells : IV → List IV
  | .agg l => l
  | v => [v]

def ofC : Value → IV
  | .int k n => .num k n
  | .bool b => .bool b
  | .string s => .str s
  | .slice none 0 0 => .nils
  | .pointer none => .nilp
  | .nilIface => .nilI
  | _ => .junk

def strip : IV → IV × Bool
  | .opt b v => (v, b)
  | v => (v, true)

/-- Is an operand a constant? -/
def isC : Operand → Bool
  | .const _ => true
  | _ => false
def binV (T : Nat → TD) (cn : Bool) (op : BinOp) (t : TypeId) : IV → IV → IV × Prop
  | .num k a, .num k' b =>
    match op with
    | .add => (.num k (k.wrap (a + b)), k = k')
    | .sub => (.num k (k.wrap (a - b)), k = k')
    | .mul => (.num k (k.wrap (a * b)), k = k')
    | .quo => (.num k (k.wrap (a.tdiv b)), k = k' ∧ b ≠ 0)
    | .rem => (.num k (a.tmod b), k = k' ∧ b ≠ 0)
    | .xor => (.num k (bits .xor k a b), k = k')
    | .eql => (.bool (a == b), k = k')
    | .neq => (.bool (a != b), k = k')
    | .lss => (.bool (decide (a < b)), k = k')
    | .leq => (.bool (decide (a ≤ b)), k = k')
    | .gtr => (.bool (decide (b < a)), k = k')
    | .geq => (.bool (decide (b ≤ a)), k = k')
    | _ => (.junk, False)
  | .bool a, .bool b =>
    match op with
    | .eql => (.bool (a == b), (T t).on = true ∧ (T t).bl = true)
    | .neq => (.bool (!(a == b)), (T t).on = true ∧ (T t).bl = true)
    | _ => (.junk, False)
  | .agg l, .agg l' =>
    match op with
    | .eql => (.bool (eqL l l'), (T t).on = true ∧ (T t).eqb = true ∧ numsOnly l = true ∧ numsOnly l' = true ∧ l.length = (T t).size ∧ l'.length = (T t).size)
    | .neq => (.bool (!eqL l l'), (T t).on = true ∧ (T t).eqb = true ∧ numsOnly l = true ∧ numsOnly l' = true ∧ l.length = (T t).size ∧ l'.length = (T t).size)
    | _ => (.junk, False)
  | .sl _ es, .nils =>
    match op with
    | .eql => (bif es.isEmpty then .anyB else .bool false, (T t).on = true ∧ (T t).elem ≠ 0)
    | .neq => (bif es.isEmpty then .anyB else .bool true, (T t).on = true ∧ (T t).elem ≠ 0)
    | _ => (.junk, False)
  | .nils, .nils =>
    match op with
    | .eql => (.bool true, (T t).on = true ∧ (T t).elem ≠ 0)
    | .neq => (.bool false, (T t).on = true ∧ (T t).elem ≠ 0)
    | _ => (.junk, False)
  | .str a, .str b =>
    match op with
    | .add => (.str (a ++ b), a.size + b.size ≤ 9223372036854775807)
    | .eql => (.bool (a.toList == b.toList), True)
    | .neq => (.bool (!(a.toList == b.toList)), True)
    | _ => (.junk, False)
  | .nilI, .nilI =>
    match op with
    | .eql => (.bool true, cn = true ∧ (T t).on = true ∧ (T t).ifc = true)
    | .neq => (.bool false, cn = true ∧ (T t).on = true ∧ (T t).ifc = true)
    | _ => (.junk, False)
  | .ifc, .nilI =>
    match op with
    | .eql => (.bool false, (T t).on = true ∧ (T t).ifc = true)
    | .neq => (.bool true, (T t).on = true ∧ (T t).ifc = true)
    | _ => (.junk, False)
  | _, _ => (.junk, False)

/-- A part of k cells of a row of cells, from off on. -/
def partV (s off : Nat) (l : List IV) : IV × Prop :=
  if 2 ≤ s then (.agg ((l.drop off).take s), off + s ≤ l.length) else (l.getD off .junk, off < l.length ∧ s = 1)

def eltV (s k : Nat) (e : IV) (off : Nat) : IV × Prop :=
  if off = 0 ∧ s = k then (e, True) else
  match e with
  | .agg l => partV s off l
  | _ => (.junk, False)

def loadV (T : Nat → TD) (h : Nat → Option IBlk) (t : TypeId) : IV → IV × Prop
  | .ptr id off =>
    match h id with
    | some (.box _ cells) => ((partV (T t).size off cells).1, (partV (T t).size off cells).2 ∧ (T t).on = true)
    | _ => (.junk, False)
  | .eptr k e off => ((eltV (T t).size k e off).1, (eltV (T t).size k e off).2 ∧ (T t).on = true)
  | .aptr id i off =>
    match h id with
    | some (.arr k _ es) => ((eltV (T t).size k (es.getD i .junk) off).1, (eltV (T t).size k (es.getD i .junk) off).2 ∧ i < es.length ∧ (T t).on = true)
    | _ => (.junk, False)
  | _ => (.junk, False)

def faddrV (T : Nat → TD) (h : Nat → Option IBlk) (t : TypeId) (f : Nat) : IV → IV × Prop
  | .ptr id off => (.ptr id (off + ((T t).offs.getD f (0, 0)).1), (T t).on = true ∧ f < (T t).offs.length ∧ (h id).map IBlk.shape = some 0)
  | .eptr k e off => (.eptr k e (off + ((T t).offs.getD f (0, 0)).1), (T t).on = true ∧ f < (T t).offs.length)
  | .aptr id i off => (.aptr id i (off + ((T t).offs.getD f (0, 0)).1), (T t).on = true ∧ f < (T t).offs.length ∧ ∃ k ty es, h id = some (.arr k ty es))
  | _ => (.junk, False)

def iaddrV (T : Nat → TD) (h : Nat → Option IBlk) (t : TypeId) : IV → IV → IV × Prop
  | .sl k es, .num _ i => (.eptr k (es.getD i.toNat .junk) 0, 0 ≤ i ∧ i < es.length ∧ (T t).on = true ∧ (T t).elem ≠ 0 ∧ (T (T t).elem).on = true ∧ (T (T t).elem).size = k)
  | .ref id off n _, .num _ i =>
    match h id with
    | some (.arr k _ es) => (.aptr id (off + i.toNat) 0, 0 ≤ i ∧ i < n ∧ (T t).on = true ∧ (T t).elem ≠ 0 ∧ (T (T t).elem).on = true ∧ (T (T t).elem).size = k)
    | _ => (.junk, False)
  | .ptr id off, .num _ i => (.ptr id (off + i.toNat), 0 ≤ i ∧ i < (T t).alen ∧ (T t).on = true ∧ (h id).map IBlk.shape = some 0)
  | _, _ => (.junk, False)

def numOf : IV → Option Int
  | .num _ n => some n
  | _ => none

def sliceV (T : Nat → TD) (h : Nat → Option IBlk) (t : TypeId) (x : IV) (lo hi mx : Option IV) : IV × Prop :=
  match x, lo, hi, mx with
  | .sl k es, none, some (.num _ H), none => (.sl k (es.take H.toNat), 0 ≤ H ∧ H ≤ es.length ∧ (T t).on = true ∧ (T t).elem ≠ 0 ∧ (T (T t).elem).on = true ∧ (T (T t).elem).size = k)
  | .sl k es, some (.num _ L), none, none => (.sl k (es.drop L.toNat), 0 ≤ L ∧ L ≤ es.length ∧ (T t).on = true ∧ (T t).elem ≠ 0 ∧ (T (T t).elem).on = true ∧ (T (T t).elem).size = k)
  | .sl k es, some (.num _ L), some (.num _ H), none => (.sl k ((es.take H.toNat).drop L.toNat), 0 ≤ L ∧ L ≤ H ∧ H ≤ es.length ∧ (T t).on = true ∧ (T t).elem ≠ 0 ∧ (T (T t).elem).on = true ∧ (T (T t).elem).size = k)
  | .sl k es, none, some (.num _ H), some (.num _ M) => (.sl k (es.take H.toNat), 0 ≤ H ∧ H ≤ M ∧ M ≤ es.length ∧ (T t).on = true ∧ (T t).elem ≠ 0 ∧ (T (T t).elem).on = true ∧ (T (T t).elem).size = k)
  | .ref id off n full, none, some (.num _ H), none =>
    match h id with
    | some (.arr k _ _) => (.ref id off H.toNat full, 0 ≤ H ∧ H ≤ n ∧ (T t).on = true ∧ (T t).elem ≠ 0 ∧ (T (T t).elem).on = true ∧ (T (T t).elem).size = k)
    | _ => (.junk, False)
  | .ref id off n full, some (.num _ L), none, none =>
    match h id with
    | some (.arr k _ _) => (.ref id (off + L.toNat) (n - L.toNat) full, 0 ≤ L ∧ L ≤ n ∧ (T t).on = true ∧ (T t).elem ≠ 0 ∧ (T (T t).elem).on = true ∧ (T (T t).elem).size = k)
    | _ => (.junk, False)
  | .ref id off n _, none, some (.num _ H), some (.num _ M) =>
    match h id with
    | some (.arr k _ _) => (.ref id off H.toNat false, 0 ≤ H ∧ H ≤ M ∧ M ≤ n ∧ (T t).on = true ∧ (T t).elem ≠ 0 ∧ (T (T t).elem).on = true ∧ (T (T t).elem).size = k)
    | _ => (.junk, False)
  | .nils, none, some (.num _ H), none => (.nils, H = 0 ∧ (T t).on = true ∧ (T t).elem ≠ 0 ∧ (T (T t).elem).on = true)
  | .nils, none, some (.num _ H), some (.num _ M) => (.nils, H = 0 ∧ M = 0 ∧ (T t).on = true ∧ (T t).elem ≠ 0 ∧ (T (T t).elem).on = true)
  | .nils, some (.num _ L), none, none => (.nils, L = 0 ∧ (T t).on = true ∧ (T t).elem ≠ 0 ∧ (T (T t).elem).on = true)
  | .str s, none, some (.num _ H), none => (.str (s.extract 0 H.toNat), 0 ≤ H ∧ H ≤ s.size ∧ (T t).on = true ∧ (T t).st = true)
  | .str s, some (.num _ L), none, none => (.str (s.extract L.toNat s.size), 0 ≤ L ∧ L ≤ s.size ∧ (T t).on = true ∧ (T t).st = true)
  | .str s, some (.num _ L), some (.num _ H), none => (.str (s.extract L.toNat H.toNat), 0 ≤ L ∧ L ≤ H ∧ H ≤ s.size ∧ (T t).on = true ∧ (T t).st = true)
  | _, _, _, _ => (.junk, False)

def lenV (T : Nat → TD) (h : Nat → Option IBlk) (t : TypeId) : IV → IV × Prop
  | .sl _ es => (.num .i64 es.length, (T t).on = true ∧ (T t).elem ≠ 0)
  | .ref _ _ n _ => (.num .i64 n, (T t).on = true ∧ (T t).elem ≠ 0)
  | .nils => (.num .i64 0, (T t).on = true ∧ (T t).elem ≠ 0)
  | .str s => (.num .i64 s.size, (T t).on = true ∧ (T t).st = true)
  | _ => (.junk, False)

/-- cs laid over l from o on. -/
def over (l : List IV) (o : Nat) (cs : List IV) : List IV := l.take o ++ cs ++ l.drop (o + cs.length)

def solid : IV → Bool
  | .junk | .opt _ _ | .tup _ => false
  | _ => true

def buildL (offs : List (Nat × Nat)) : List IV → List (Nat × IV) → List IV × Prop
  | l, [] => (l, True)
  | l, (i, x) :: r =>
    let q := buildL offs (over l (offs.getD i (0, 0)).1 x.cells) r
    (q.1, i < offs.length ∧ solid x = true ∧ x.cells.length = (offs.getD i (0, 0)).2 ∧ (offs.getD i (0, 0)).1 + x.cells.length ≤ l.length ∧ q.2)

/-- Conversions: of numbers; of an own row of one byte to a string. -/
def convertV (T : Nat → TD) (h : Nat → Option IBlk) (s d : TypeId) : IV → IV × Prop
  | .num _ n => (match (T d).ik with | some k => (.num k (k.wrap n), (T d).on = true ∧ (T s).on = true ∧ (T s).ik.isSome = true) | _ => (.junk, False))
  | .ref id off n _ =>
    match h id with
    | some (.arr k _ [.num .u8 a]) => (.str ⟨#[UInt8.ofNat a.toNat]⟩, off = 0 ∧ n = 1 ∧ k = 1 ∧ 0 ≤ a ∧ a < 256 ∧ (T d).on = true ∧ (T d).st = true ∧ (T s).on = true ∧ (T s).elem ≠ 0 ∧ (T (T s).elem).on = true ∧ (T (T s).elem).ik = some .u8)
    | _ => (.junk, False)
  | _ => (.junk, False)

/-- One operation that makes nothing, at operands g and blocks h: its value, and what it asks. -/
def pureV (T : Nat → TD) (g : Operand → IV) (h : Nat → Option IBlk) : Op → IV × Prop
  | .move x => (g x, True)
  | .assign x => (g x, True)
  | .binOp op t x y _ => binV T (isC x || isC y) op t (g x) (g y)
  | .unOp .neg _ x => (match g x with | .num k a => (.num k (k.wrap (-a)), True) | _ => (.junk, False))
  | .unOp .not _ x => (match g x with | .bool b => (.bool (!b), True) | _ => (.junk, False))
  | .convert s d x => convertV T h s d (g x)
  | .index t x i => (match g x, g i with
    | .str s, .num _ n => (.num .u8 ((s.data.getD n.toNat 0).toNat : Int), 0 ≤ n ∧ n < s.size ∧ (T t).on = true ∧ (T t).st = true)
    | _, _ => (.junk, False))
  | .load t x => loadV T h t (g x)
  | .fieldAddr t x f => faddrV T h t f (g x)
  | .field t x f => (match g x with | .agg l => ((partV ((T t).offs.getD f (0, 0)).2 ((T t).offs.getD f (0, 0)).1 l).1, (partV ((T t).offs.getD f (0, 0)).2 ((T t).offs.getD f (0, 0)).1 l).2 ∧ (T t).on = true ∧ f < (T t).offs.length) | _ => (.junk, False))
  | .indexAddr t x i => iaddrV T h t (g x) (g i)
  | .slice t x lo hi mx => sliceV T h t (g x) (lo.map g) (hi.map g) (mx.map g)
  | .extract x i => (match g x with | .tup l => (l.getD i .junk, i < l.length) | _ => (.junk, False))
  | .build t parts =>
    if (T t).alen = 0 then
      let q := buildL (T t).offs (T t).zero (parts.toList.map fun p => (p.1, g p.2))
      (.agg q.1, q.2 ∧ (T t).on = true ∧ (T t).offs ≠ [])
    else
      let q := buildL (T t).aoffs (T t).zero (parts.toList.map fun p => (p.1, g p.2))
      (.agg q.1, q.2 ∧ (T t).on = true)
  | .makeFunc (.func f) fi ca => (.clo f (ca.toList.map g), fi = #[])
  | .nilCheck x => (match g x with | .ptr id off => (.ptr id off, (h id).map IBlk.shape = some 0) | _ => (.junk, False))
  | .call { callee := .builtin .len, args, argTypes } => (match args.toList, argTypes.toList with | [x], [t] => lenV T h t (g x) | _, _ => (.junk, False))
  | .call { callee := .builtin .cap, args, argTypes } => (match args.toList, argTypes.toList with | [x], [t] => (match g x with | .nils => (.num .i64 0, (T t).on = true ∧ (T t).elem ≠ 0) | _ => (.junk, False)) | _, _ => (.junk, False))
  | .call { callee := .builtin .max, args, .. } => (match args.toList with | [x, y] => (match g x, g y with | .num k a, .num k' b => (.num k (max a b), k = k') | _, _ => (.junk, False)) | _ => (.junk, False))
  | .call { callee := .builtin .min, args, .. } => (match args.toList with | [x, y] => (match g x, g y with | .num k a, .num k' b => (.num k (min a b), k = k') | _, _ => (.junk, False)) | _ => (.junk, False))
  | _ => (.junk, False)

end Go.Ideal

/- The evaluator is right: each operation that makes nothing runs to the value that it gives. -/
set_option linter.unusedVariables false
set_option linter.unusedSimpArgs false
namespace Go.Ideal
open Go

def RepB (c : Ctx) (id : Nat) : IBlk → Prop
  | .box ty cells => ∃ cs, c.w.heap[c.μ id]? = some (.cells ⟨cs⟩ ty (0, 0)) ∧ RepL c cells cs ∧ ∀ u ∈ cs, u.oneCell' = true
  | .arr k ty es => ∃ cur, c.w.heap[c.μ id]? = some (.cells cur ty (0, 0)) ∧ cur.size = c.κ id * k ∧ c.κ id ≤ maxLen ∧ 1 ≤ k ∧ es.length ≤ c.κ id ∧ noIdL es ∧ RepR c k (c.μ id) 0 es

structure Hp (c : Ctx) (h : Nat → Option IBlk) : Prop where
  sh : ∀ id, c.sh id = (h id).map IBlk.shape
  blk : ∀ id b, h id = some b → RepB c id b
  av : ∀ id, h id ≠ none → c.av (c.μ id)

theorem RepL.length {c : Ctx} : ∀ {l : List IV} {vs : List Value}, RepL c l vs → vs.length = l.length
  | [], vs, h => by simp [RepL] at h; simp [h]
  | x :: l, vs, h => by
    simp only [RepL] at h
    obtain ⟨v, r, rfl, _, hl⟩ := h
    simp [RepL.length hl]

theorem RepL.get {c : Ctx} : ∀ {l : List IV} {vs : List Value}, RepL c l vs → ∀ i, i < l.length → ∃ v, vs[i]? = some v ∧ RepV c (l.getD i .junk) v
  | [], vs, h, i, hi => by simp at hi
  | x :: l, vs, h, i, hi => by
    simp only [RepL] at h
    obtain ⟨v, r, rfl, hx, hl⟩ := h
    cases i with
    | zero => exact ⟨v, by simp, by simpa using hx⟩
    | succ i =>
      obtain ⟨u, hu, hr⟩ := RepL.get hl i (by simpa using hi)
      exact ⟨u, by simpa using hu, by simpa using hr⟩

theorem RepL.drop {c : Ctx} : ∀ {l : List IV} {vs : List Value}, RepL c l vs → ∀ n, RepL c (l.drop n) (vs.drop n)
  | [], vs, h, n => by simp [RepL] at h; simp [h, RepL]
  | x :: l, vs, h, n => by
    have h0 := h
    simp only [RepL] at h
    obtain ⟨v, r, rfl, hx, hl⟩ := h
    cases n with
    | zero => simpa using h0
    | succ n => simpa using RepL.drop hl n

theorem RepL.take {c : Ctx} : ∀ {l : List IV} {vs : List Value}, RepL c l vs → ∀ n, RepL c (l.take n) (vs.take n)
  | [], vs, h, n => by simp [RepL] at h; simp [h, RepL]
  | x :: l, vs, h, n => by
    simp only [RepL] at h
    obtain ⟨v, r, rfl, hx, hl⟩ := h
    cases n with
    | zero => simp [RepL]
    | succ n =>
      simp only [List.take_succ_cons, RepL]
      exact ⟨v, _, rfl, hx, RepL.take hl n⟩

theorem RepL.append {c : Ctx} : ∀ {l : List IV} {vs : List Value} {l' : List IV} {vs' : List Value}, RepL c l vs → RepL c l' vs' → RepL c (l ++ l') (vs ++ vs')
  | [], vs, l', vs', h, h' => by simp [RepL] at h; simpa [h] using h'
  | x :: l, vs, l', vs', h, h' => by
    simp only [RepL] at h
    obtain ⟨v, r, rfl, hx, hl⟩ := h
    simp only [List.cons_append, RepL]
    exact ⟨v, _, rfl, hx, RepL.append hl h'⟩

theorem RepR.get {c : Ctx} {k b : Nat} : ∀ {es : List IV} {o : Nat}, RepR c k b o es → ∀ i, i < es.length →
    ∃ x, RepV c (es.getD i .junk) x ∧ EltOk k x ∧ ∀ j, j < k → c.w.cell? ⟨b, o + i * k + j, none⟩ = x.cells[j]?
  | [], o, h, i, hi => by simp at hi
  | e :: es, o, h, i, hi => by
    simp only [RepR] at h
    obtain ⟨⟨x, hx, hk, hc⟩, hr⟩ := h
    cases i with
    | zero => exact ⟨x, by simpa using hx, hk, fun j hj => by simpa using hc j hj⟩
    | succ i =>
      obtain ⟨y, hy, hk', hc'⟩ := RepR.get hr i (by simpa using hi)
      exact ⟨y, by simpa using hy, hk', fun j hj => by rw [show o + (i + 1) * k + j = o + k + i * k + j by rw [Nat.add_mul]; omega]; exact hc' j hj⟩

theorem noIdL.get : ∀ {es : List IV}, noIdL es → ∀ i, noId (es.getD i .junk)
  | [], _, i => fun id => by simp [IV.ment]
  | e :: es, h, 0 => fun id => by have := h id; simp [IV.mentL] at this; simpa using this.1
  | e :: es, h, i + 1 => fun id => by
    have h2 : noIdL es := fun id => by have := h id; simp [IV.mentL] at this; exact this.2
    simpa using h2.get i id

theorem noIdL.drop : ∀ {es : List IV}, noIdL es → ∀ n, noIdL (es.drop n)
  | es, h, 0 => by simpa using h
  | [], h, n + 1 => by simpa using h
  | e :: es, h, n + 1 => by
    have h2 : noIdL es := fun id => by have := h id; simp [IV.mentL] at this; exact this.2
    simpa using h2.drop n

theorem noIdL.take : ∀ {es : List IV}, noIdL es → ∀ n, noIdL (es.take n)
  | es, h, 0 => fun id => by simp [IV.mentL]
  | [], h, n + 1 => by simpa using h
  | e :: es, h, n + 1 => fun id => by
    have h2 : noIdL es := fun id => by have := h id; simp [IV.mentL] at this; exact this.2
    have := h id
    simp [IV.mentL] at this
    simp [IV.mentL, this.1, h2.take n id]

theorem RepR.drop {c : Ctx} {k b : Nat} : ∀ {es : List IV} {o : Nat}, RepR c k b o es → ∀ n, n ≤ es.length → RepR c k b (o + n * k) (es.drop n)
  | es, o, h, 0, hn => by simpa using h
  | [], o, h, n + 1, hn => by simp at hn
  | e :: es, o, h, n + 1, hn => by
    simp only [RepR] at h
    have := RepR.drop h.2 n (by simpa using hn)
    rw [show o + (n + 1) * k = o + k + n * k by rw [Nat.add_mul]; omega]
    simpa using this

theorem RepR.take {c : Ctx} {k b : Nat} : ∀ {es : List IV} {o : Nat}, RepR c k b o es → ∀ n, RepR c k b o (es.take n)
  | es, o, h, 0 => by simp [RepR]
  | [], o, h, n + 1 => by simp [RepR]
  | e :: es, o, h, n + 1 => by
    simp only [RepR] at h
    simp only [List.take_succ_cons, RepR]
    exact ⟨h.1, RepR.take h.2 n⟩

theorem Addr.add_off (b o n : Nat) : Addr.add ⟨b, o, none⟩ n = ⟨b, o + n, none⟩ := Addr.add_lit b o n

section
variable {P : Program} {T : Nat → TD} {c : Ctx} {h : Nat → Option IBlk}

/-- A variable of s cells that lie in memory is read. -/
theorem run_loadVar {t : TypeId} {d : TD} (ht : TyOK P t d) (b o : Nat) (cs : List Value) (hl : cs.length = d.size) (h1 : 1 ≤ d.size) (w : World)
    (hc : ∀ j v, cs[j]? = some v → w.cell? ⟨b, o + j, none⟩ = some v) :
    (loadVar t ⟨b, o, none⟩).run P w = .ok (if 2 ≤ d.size then .agg ⟨cs⟩ else cs.headD undef) w := by
  unfold loadVar
  simp only [Sem.run_bind, ht.agg, Result.andThen_ok]
  by_cases h2 : 2 ≤ d.size
  · simp only [h2, decide_true, if_true, Sem.run_bind, ht.size, Result.andThen_ok]
    have := run_loadCells_list (P := P) w ⟨b, o, none⟩ cs (fun j v hj => by rw [Addr.add_off]; exact hc j v hj)
    rw [hl] at this
    rw [this]
    simp
  · have hs : d.size = 1 := by omega
    match cs, hl with
    | [v], _ =>
      have hv := hc 0 v (by simp)
      rw [Nat.add_zero] at hv
      simp [hs, run_load, hv]
    | [], hl => simp [hs] at hl
    | _ :: _ :: _, hl => simp [hs] at hl

theorem partV_sound {l : List IV} {vs : List Value} (hl : RepL c l vs) {s off : Nat} (hp : (partV s off l).2) (h1 : 1 ≤ s) :
    ((vs.drop off).take s).length = s ∧ RepV c (partV s off l).1 (if 2 ≤ s then .agg ⟨(vs.drop off).take s⟩ else ((vs.drop off).take s).headD undef) := by
  have hlen := hl.length
  unfold partV at *
  by_cases h2 : 2 ≤ s
  · simp only [h2, if_true] at hp ⊢
    refine ⟨by simp; omega, ?_⟩
    simp only [RepV]
    exact ⟨_, rfl, (hl.drop off).take s⟩
  · simp only [h2, if_false] at hp ⊢
    obtain ⟨ho, rfl⟩ := hp
    obtain ⟨v, hv, hr⟩ := hl.get off ho
    have e : (vs.drop off).take 1 = [v] := by
      have hi : off < vs.length := by omega
      have : vs[off]? = some v := hv
      rw [List.getElem?_eq_getElem hi] at this
      injection this with this
      rw [List.drop_eq_getElem_cons hi, this]
      rfl
    rw [e]
    exact ⟨rfl, by simpa using hr⟩

theorem eltOk_cells {k : Nat} {x : Value} (hk : EltOk k x) : x.cells.toList.length = k := by simpa using hk.1

/-- What eltV gives of an element, read cell by cell. -/
theorem eltV_sound {k s off : Nat} {e : IV} {x : Value} (hx : RepV c e x) (hk : EltOk k x) (hp : (eltV s k e off).2) (h1 : 1 ≤ s) :
    ((x.cells.toList.drop off).take s).length = s ∧ RepV c (eltV s k e off).1 (if 2 ≤ s then .agg ⟨(x.cells.toList.drop off).take s⟩ else ((x.cells.toList.drop off).take s).headD undef) := by
  unfold eltV at *
  by_cases h0 : off = 0 ∧ s = k
  · obtain ⟨rfl, rfl⟩ := h0
    simp only [and_self, if_true] at hp ⊢
    have hlen := eltOk_cells hk
    have e0 : (x.cells.toList.drop 0).take s = x.cells.toList := by rw [List.drop_zero, List.take_of_length_le (by omega)]
    rw [e0]
    refine ⟨hlen, ?_⟩
    obtain ⟨hs, hu, ha, _⟩ := hk
    by_cases h2 : 2 ≤ s
    · simp only [h2, if_true]
      simp only [h2, decide_true] at ha
      cases x with
      | agg cs => simpa [Value.cells] using hx
      | _ => simp [isAggV] at ha
    · simp only [h2, if_false]
      simp only [h2, decide_false] at ha
      cases x with
      | agg cs => simp [isAggV] at ha
      | _ => simpa [Value.cells] using hx
  · simp only [h0, if_false] at hp ⊢
    cases e with
    | agg l =>
      simp only [RepV] at hx
      obtain ⟨vs, rfl, hl⟩ := hx
      exact partV_sound hl hp h1
    | _ => simp at hp

theorem cells_of_elt {k b o : Nat} {x : Value} (hk : EltOk k x) {w : World} (hc : ∀ j, j < k → w.cell? ⟨b, o + j, none⟩ = x.cells[j]?) (off s : Nat) (hlen : ((x.cells.toList.drop off).take s).length = s) :
    ∀ j v, ((x.cells.toList.drop off).take s)[j]? = some v → w.cell? ⟨b, o + off + j, none⟩ = some v := by
  intro j v hj
  have hl := eltOk_cells hk
  rw [List.getElem?_take] at hj
  split at hj
  · rw [List.getElem?_drop] at hj
    have hlt : off + j < k := by
      have := (List.getElem?_eq_some_iff.1 hj).1
      omega
    rw [Nat.add_assoc, hc (off + j) hlt]
    simpa using hj
  · cases hj

theorem TyOK.pos {t : TypeId} {d : TD} (ht : TyOK P t d) : 1 ≤ d.size := by
  obtain ⟨i, z, _, _, _, _, hz, _⟩ := ht.info
  exact hz.2.2.2

theorem loadV_sound (hT : TOK P T) (H : Hp c h) {t : TypeId} {x : IV} {v : Value} (hx : RepV c x v) (hp : (loadV T h t x).2) :
    ∃ y, (Instr.loadAt t v).run P c.w = .ok y c.w ∧ RepV c (loadV T h t x).1 y := by
  cases x with
  | ptr id off =>
    simp only [loadV] at hp ⊢
    cases hb : h id with
    | none => simp [hb] at hp
    | some blk =>
      cases blk with
      | arr k ty es => simp [hb] at hp
      | box ty cells =>
        simp only [hb] at hp ⊢
        have ht := hT t hp.2
        simp only [RepV] at hx
        have hs : c.sh id = some 0 := by rw [H.sh, hb]; rfl
        obtain ⟨cs, hheap, hl, h1⟩ := H.blk id _ hb
        obtain ⟨a, rfl, hv⟩ := hx
        obtain rfl := hv hs
        obtain ⟨hlen, hr⟩ := partV_sound hl hp.1 ht.pos
        refine ⟨_, ?_, hr⟩
        simp only [Instr.loadAt, Instr.sureAddr, Sem.run_bind, Sem.run_pure, Result.andThen_ok]
        refine run_loadVar ht _ _ _ hlen ht.pos _ (fun j u hj => ?_)
        rw [List.getElem?_take] at hj
        split at hj
        · rw [List.getElem?_drop] at hj
          rw [cell_of_row _ _ _ _ _ _ hheap]
          simpa using hj
        · cases hj
  | eptr k e off =>
    simp only [loadV] at hp ⊢
    have ht := hT t hp.2
    simp only [RepV] at hx
    obtain ⟨b, o, y, rfl, hav, hb, hno, hy, hk, hc⟩ := hx
    obtain ⟨hlen, hr⟩ := eltV_sound hy hk hp.1 ht.pos
    refine ⟨_, ?_, hr⟩
    simp only [Instr.loadAt, Instr.sureAddr, Sem.run_bind, Sem.run_pure, Result.andThen_ok]
    exact run_loadVar ht _ _ _ hlen ht.pos _ (cells_of_elt hk hc off _ hlen)
  | aptr id i off =>
    simp only [loadV] at hp ⊢
    cases hb : h id with
    | none => simp [hb] at hp
    | some blk =>
      cases blk with
      | box ty cells => simp [hb] at hp
      | arr k ty es =>
        simp only [hb] at hp ⊢
        obtain ⟨hp1, hi, hon⟩ := hp
        have ht := hT t hon
        simp only [RepV] at hx
        obtain ⟨cur, hheap, hsz, hcap, hk1, hle, hnoid, hR⟩ := H.blk id _ hb
        obtain ⟨a, rfl, hv⟩ := hx
        obtain rfl := hv k hk1 (by rw [H.sh, hb]; rfl)
        obtain ⟨y, hy, hk, hc⟩ := hR.get i hi
        obtain ⟨hlen, hr⟩ := eltV_sound hy hk hp1 ht.pos
        refine ⟨_, ?_, hr⟩
        simp only [Instr.loadAt, Instr.sureAddr, Sem.run_bind, Sem.run_pure, Result.andThen_ok]
        have := cells_of_elt (b := c.μ id) (o := i * k) hk (w := c.w) (fun j hj => by have := hc j hj; rwa [Nat.zero_add] at this) off _ hlen
        exact run_loadVar ht _ _ _ hlen ht.pos _ this
  | _ => simp [loadV] at hp

theorem offs_get {d : TD} {f : Nat} (hf : f < d.offs.length) : d.offs[f]? = some ((d.offs.getD f (0, 0)).1, (d.offs.getD f (0, 0)).2) := by
  rw [List.getElem?_eq_getElem hf]
  simp [List.getD, List.getElem?_eq_getElem hf]

theorem faddrV_sound (hT : TOK P T) (H : Hp c h) {t : TypeId} {f : Nat} {x : IV} {v : Value} (hx : RepV c x v) (hp : (faddrV T h t f x).2) :
    ∃ y, (Instr.fieldAt t v f).run P c.w = .ok y c.w ∧ RepV c (faddrV T h t f x).1 y := by
  have key : ∀ (b o : Nat), (T t).on = true → f < (T t).offs.length →
      (Instr.fieldAt t (.pointer (some ⟨b, o, none⟩)) f).run P c.w = .ok (.pointer (some ⟨b, o + ((T t).offs.getD f (0, 0)).1, none⟩)) c.w := by
    intro b o hon hf
    obtain ⟨fs, fd, hu, hfd, ho, hs0, hsz, _⟩ := (hT t hon).field f _ _ (offs_get hf)
    simp only [Instr.fieldAt, Sem.run_bind, run_underlying hu, Result.andThen_ok, hfd, Instr.sureAddr, Sem.run_pure, fieldPlace, hsz, hs0, if_false, Addr.add_off, ho]
  cases x with
  | ptr id off =>
    simp only [faddrV] at hp ⊢
    obtain ⟨hon, hf, hs⟩ := hp
    simp only [RepV] at hx ⊢
    obtain ⟨a, rfl, hv⟩ := hx
    obtain rfl := hv (by rw [H.sh]; exact hs)
    exact ⟨_, key _ _ hon hf, _, rfl, fun _ => rfl⟩
  | eptr k e off =>
    simp only [faddrV] at hp ⊢
    obtain ⟨hon, hf⟩ := hp
    simp only [RepV] at hx ⊢
    obtain ⟨b, o, y, rfl, hav, hb, hno, hy, hk, hc⟩ := hx
    exact ⟨_, key _ _ hon hf, b, o, y, by rw [Nat.add_assoc], hav, hb, hno, hy, hk, hc⟩
  | aptr id i off =>
    simp only [faddrV] at hp ⊢
    obtain ⟨hon, hf, k, ty, es, hb⟩ := hp
    simp only [RepV] at hx ⊢
    obtain ⟨cur, hheap, hsz, hcap, hk1, hle, hnoid, hR⟩ := H.blk id _ hb
    have hs : c.sh id = some k := by rw [H.sh, hb]; rfl
    obtain ⟨a, rfl, hv⟩ := hx
    obtain rfl := hv k hk1 hs
    refine ⟨_, key _ _ hon hf, _, rfl, fun k' hk' hs' => ?_⟩
    rw [hs] at hs'
    injection hs' with hs'
    subst hs'
    rw [Nat.add_assoc]
  | _ => simp [faddrV] at hp

theorem elem_eq {t : TypeId} {d : TD} (ht : TyOK P t d) (he : d.elem ≠ 0) : P.elem t = d.elem := by
  have := ht.slice he
  simp [Program.elem, this]

theorem iaddrV_sound (hT : TOK P T) (H : Hp c h) {t : TypeId} {x i : IV} {v u : Value} (hx : RepV c x v) (hi : RepV c i u) (hp : (iaddrV T h t x i).2) :
    ∃ y, (Instr.indexAt t v u).run P c.w = .ok y c.w ∧ RepV c (iaddrV T h t x i).1 y := by
  have key : ∀ (b o n cp : Nat) (k : IntKind) (j : Int), (T t).on = true → (T t).elem ≠ 0 → (T (T t).elem).on = true → 0 ≤ j → j < n →
      (Instr.indexAt t (.slice (some ⟨b, o, none⟩) n cp) (.int k j)).run P c.w = .ok (.pointer (some ⟨b, o + j.toNat * (T (T t).elem).size, none⟩)) c.w := by
    intro b o n cp k j hon he hoe h0 h1
    have hu := (hT t hon).slice he
    rw [run_indexAt_slice (P := P) _ _ _ _ _ _ _ (by rw [elem_eq (hT t hon) he]; exact hu), if_pos ⟨h0, h1⟩, elem_eq (hT t hon) he, (hT _ hoe).size]
    simp [Addr.add_off]
  cases x with
  | sl k es =>
    cases i with
    | num ki j =>
      simp only [iaddrV] at hp ⊢
      obtain ⟨h0, h1, hon, he, hoe, hk⟩ := hp
      simp only [RepV] at hx hi ⊢
      subst hi
      obtain ⟨a, n, cp, rfl, hn, hc, hm, han, hno, hr⟩ := hx
      have hjl : j.toNat < es.length := by omega
      obtain ⟨b, o, rfl, hav, hb, hR⟩ := hr (by omega)
      refine ⟨_, key b o n cp ki j hon he hoe h0 (by omega), ?_⟩
      obtain ⟨y, hy, hk', hcells⟩ := hR.get j.toNat hjl
      exact ⟨b, o + j.toNat * k, y, by rw [hk]; rfl, hav, hb, hno.get _, hy, hk', hcells⟩
    | _ => simp [iaddrV] at hp
  | ref id off n full =>
    cases i with
    | num ki j =>
      simp only [iaddrV] at hp ⊢
      cases hb : h id with
      | none => simp [hb] at hp
      | some blk =>
        cases blk with
        | box ty cells => simp [hb] at hp
        | arr k ty es =>
          simp only [hb] at hp ⊢
          obtain ⟨h0, h1, hon, he, hoe, hk⟩ := hp
          simp only [RepV] at hx hi ⊢
          subst hi
          obtain ⟨cur, hheap, hsz, hcap, hk1, hle, hnoid, hR⟩ := H.blk id _ hb
          have hs : c.sh id = some k := by rw [H.sh, hb]; rfl
          obtain ⟨a, cp, rfl, han, hx⟩ := hx
          obtain ⟨hn, _, _, ha⟩ := hx k hk1 hs
          have hn0 : 0 < n := by omega
          rw [ha (.inl hn0)]
          refine ⟨_, key _ _ n cp ki j hon he hoe h0 h1, _, rfl, fun k' hk' hs' => ?_⟩
          rw [hs] at hs'
          injection hs' with hs'
          subst hs'
          rw [hk, Nat.add_mul, Nat.add_zero]
    | _ => simp [iaddrV] at hp
  | ptr id off =>
    cases i with
    | num ki j =>
      simp only [iaddrV] at hp ⊢
      obtain ⟨h0, h1, hon, hs⟩ := hp
      simp only [RepV] at hx hi ⊢
      subst hi
      obtain ⟨a, rfl, hv⟩ := hx
      obtain rfl := hv (by rw [H.sh]; exact hs)
      obtain ⟨hu, hz, _⟩ := (hT t hon).arr (by omega)
      refine ⟨.pointer (some ⟨_, off + j.toNat, none⟩), ?_, _, rfl, fun _ => rfl⟩
      simp only [Instr.indexAt, Sem.run_bind, asIntOf, Sem.run_pure, Result.andThen_ok, run_underlying hu, Instr.sureAddr]
      rw [if_pos ⟨h0, h1⟩]
      simp [hz, Addr.add_off]
    | _ => simp [iaddrV] at hp
  | _ => simp [iaddrV] at hp

end
end Go.Ideal

/- The evaluator is right, continued: slices, lengths, binary operations, structs built; then every operation that makes nothing. -/
set_option linter.unusedVariables false
set_option linter.unusedSimpArgs false
namespace Go.Ideal
open Go

section
variable {P : Program} {T : Nat → TD} {c : Ctx} {h : Nat → Option IBlk}

/-- A by-value slice, resliced. -/
theorem sl_sliced {k : Nat} {es : List IV} {v : Value} (hx : RepV c (.sl k es) v) (s l hh m : Nat) (hlh : l ≤ hh) (hle : hh ≤ es.length) (hs : s = k) :
    ∀ a n cp, v = .slice a n cp → hh ≤ m → m ≤ cp → RepV c (.sl k ((es.take hh).drop l)) (sliced a l hh m s) := by
  intro a n cp hv hhm hmc
  subst hs
  simp only [RepV] at hx ⊢
  obtain ⟨a', n', cp', hv', hn, hc, hm, han, hno, hr⟩ := hx
  rw [hv] at hv'
  injection hv' with e1 e2 e3
  subst e1 e2 e3
  refine ⟨_, _, _, rfl, by simp; omega, by omega, by omega, fun hq => ?_, (hno.take hh).drop l, fun h0 => ?_⟩
  · have h0 : a = none := by
      revert hq; split
      · exact fun h => h
      · cases a <;> simp
    have := han h0
    omega
  obtain ⟨b, o, ha, hav, hb, hR⟩ := hr (by omega)
  subst ha
  refine ⟨b, o + l * s, ?_, hav, hb, (hR.take hh).drop l (by simp; omega)⟩
  rw [if_neg (by omega)]
  simp [Addr.add_off]

theorem take_all {es : List IV} {n : Nat} (hn : n = es.length) : es.take n = es := List.take_of_length_le (by omega)

theorem run_slice_ok {t : TypeId} (hon : (T t).on = true) (he : (T t).elem ≠ 0) (hoe : (T (T t).elem).on = true) (hT : TOK P T) (a : Option Addr) (n cp : Nat) (lo hi mx : Option Value) (l hh m : Nat)
    (hb : (Instr.sliceBounds true n cp lo hi mx).run P c.w = .ok (l, hh, m) c.w) :
    (Instr.sliceAt t (.slice a n cp) lo hi mx).run P c.w = .ok (sliced a l hh m (T (T t).elem).size) c.w := by
  have hu := (hT t hon).slice he
  have hE := elem_eq (hT t hon) he
  rw [run_sliceAt_slice (P := P) _ _ _ _ _ _ (by rw [hE]; exact hu), run_slice_any (P := P) _ _ _ _ _ (by rw [hE]; exact hu), hb]
  simp only [Result.andThen_ok, hE, (hT _ hoe).size]

theorem bounds_h {n cp : Nat} {k : IntKind} {H : Int} (h0 : 0 ≤ H) (h1 : H ≤ cp) (w : World) : (Instr.sliceBounds true n cp none (some (.int k H)) none).run P w = .ok (0, H.toNat, cp) w := by
  simp [Instr.sliceBounds, run_sliceBound, h0, h1]
theorem bounds_l {n cp : Nat} {k : IntKind} {L : Int} (h0 : 0 ≤ L) (h1 : L ≤ n) (w : World) : (Instr.sliceBounds true n cp (some (.int k L)) none none).run P w = .ok (L.toNat, n, cp) w := by
  simp [Instr.sliceBounds, run_sliceBound, h0, h1]
theorem bounds_lh {n cp : Nat} {k k' : IntKind} {L H : Int} (h0 : 0 ≤ L) (h1 : L ≤ H) (h2 : H ≤ cp) (w : World) : (Instr.sliceBounds true n cp (some (.int k L)) (some (.int k' H)) none).run P w = .ok (L.toNat, H.toNat, cp) w := by
  have e : ((H.toNat : Nat) : Int) = H := Int.toNat_of_nonneg (by omega)
  simp [Instr.sliceBounds, run_sliceBound, h0, h1, h2, e, (by omega : 0 ≤ H)]
theorem bounds_hm {n cp : Nat} {k k' : IntKind} {H M : Int} (h0 : 0 ≤ H) (h1 : H ≤ M) (h2 : M ≤ cp) (w : World) : (Instr.sliceBounds true n cp none (some (.int k H)) (some (.int k' M))).run P w = .ok (0, H.toNat, M.toNat) w := by
  have e : ((M.toNat : Nat) : Int) = M := Int.toNat_of_nonneg (by omega)
  simp [Instr.sliceBounds, run_sliceBound, h0, h1, h2, e, (by omega : 0 ≤ M)]

/-- A slice over a block of the frame's own, resliced. -/
theorem ref_sliced {id off n : Nat} {full : Bool} {v : Value} (hx : RepV c (.ref id off n full) v) {k : Nat} (hk : 0 < k) (hs : c.sh id = some k) (l hh m : Nat) (f' : Bool) (hlh : l ≤ hh) (hle : hh ≤ n) :
    ∃ a cp, v = .slice a n cp ∧ n ≤ cp ∧ (hh ≤ m → m ≤ cp → (f' = true → full = true ∧ m = cp) → RepV c (.ref id (off + l) (hh - l) f') (sliced a l hh m k)) := by
  simp only [RepV] at hx ⊢
  obtain ⟨a, cp, rfl, han, hx⟩ := hx
  obtain ⟨hn, hcap, hfull, ha⟩ := hx k hk hs
  refine ⟨a, cp, rfl, hn, fun hm1 hm2 hf => ⟨_, _, rfl, fun hq => ?_, fun k' hk' hs' => ?_⟩⟩
  · have h0 : a = none := by
      revert hq; split
      · exact fun h => h
      · cases a <;> simp
    have := han h0
    omega
  rw [hs] at hs'
  injection hs' with hs'
  subst hs'
  refine ⟨by omega, by omega, fun ht => ?_, fun h0 => ?_⟩
  · obtain ⟨hf1, hf2⟩ := hf ht
    have := hfull hf1
    omega
  · by_cases hml : m = l
    · have h00 : off + l = 0 := by omega
      rw [if_pos hml]
      have ho : off = 0 := by omega
      have hl : l = 0 := by omega
      rw [ha (.inr ho), ho, hl]
    · rw [if_neg hml]
      have : 0 < n ∨ off = 0 := by
        rcases h0 with h0 | h0
        · exact .inl (by omega)
        · exact .inr (by omega)
      rw [ha this]
      simp [Addr.add_off, Nat.add_mul]

theorem nils_sliced (hh s : Nat) (h0 : hh = 0) : sliced none 0 hh 0 s = .slice none 0 0 := by subst h0; simp [sliced]

/-- How an optional bound reads. -/
def RepO (c : Ctx) : Option IV → Option Value → Prop
  | none, none => True
  | some x, some v => RepV c x v
  | _, _ => False

theorem sliceAt_str {t : TypeId} {s : ByteArray} {lo hi mx : Option Value} (hu : P.underlying t = some .string) :
    (Instr.sliceAt t (.string s) lo hi mx).run P c.w = (Instr.slice t (.string s) lo hi mx).run P c.w := by
  simp [Instr.sliceAt, run_underlying hu]
theorem sliceV_sound (hT : TOK P T) (H : Hp c h) {t : TypeId} {x : IV} {v : Value} {lo hi mx : Option IV} {vlo vhi vmx : Option Value} (hx : RepV c x v)
    (hlo : RepO c lo vlo) (hhi : RepO c hi vhi) (hmx : RepO c mx vmx) (hp : (sliceV T h t x lo hi mx).2) :
    ∃ y, (Instr.sliceAt t v vlo vhi vmx).run P c.w = .ok y c.w ∧ RepV c (sliceV T h t x lo hi mx).1 y := by
  unfold sliceV at hp ⊢
  split at hp
  · rename_i k es kH HH
    obtain ⟨h0, h1, hon, he, hoe, hk⟩ := hp
    cases vlo <;> simp only [RepO] at hlo
    cases vmx <;> simp only [RepO] at hmx
    cases vhi <;> simp only [RepO, RepV] at hhi
    subst hhi
    have hx' := hx
    simp only [RepV] at hx'
    obtain ⟨a, n, cp, rfl, hn, hc, hm, han, hno, hr⟩ := hx'
    refine ⟨_, run_slice_ok hon he hoe hT a n cp _ _ _ _ _ _ (bounds_h h0 (by omega) _), ?_⟩
    have := sl_sliced hx (T (T t).elem).size 0 HH.toNat cp (by omega) (by omega) hk a n cp rfl (by omega) (by omega)
    simpa using this
  · rename_i k es kL LL
    obtain ⟨h0, h1, hon, he, hoe, hk⟩ := hp
    cases vhi <;> simp only [RepO] at hhi
    cases vmx <;> simp only [RepO] at hmx
    cases vlo <;> simp only [RepO, RepV] at hlo
    subst hlo
    have hx' := hx
    simp only [RepV] at hx'
    obtain ⟨a, n, cp, rfl, hn, hc, hm, han, hno, hr⟩ := hx'
    refine ⟨_, run_slice_ok hon he hoe hT a n cp _ _ _ _ _ _ (bounds_l h0 (by omega) _), ?_⟩
    have := sl_sliced hx (T (T t).elem).size LL.toNat n cp (by omega) (by omega) hk a n cp rfl (by omega) (by omega)
    rwa [take_all hn] at this
  · rename_i k es kL LL kH HH
    obtain ⟨h0, h01, h1, hon, he, hoe, hk⟩ := hp
    cases vmx <;> simp only [RepO] at hmx
    cases vlo <;> simp only [RepO, RepV] at hlo
    cases vhi <;> simp only [RepO, RepV] at hhi
    subst hlo hhi
    have hx' := hx
    simp only [RepV] at hx'
    obtain ⟨a, n, cp, rfl, hn, hc, hm, han, hno, hr⟩ := hx'
    refine ⟨_, run_slice_ok hon he hoe hT a n cp _ _ _ _ _ _ (bounds_lh h0 h01 (by omega) _), ?_⟩
    exact sl_sliced hx (T (T t).elem).size LL.toNat HH.toNat cp (by omega) (by omega) hk a n cp rfl (by omega) (by omega)
  · rename_i k es kH HH kM MM
    obtain ⟨h0, h01, h1, hon, he, hoe, hk⟩ := hp
    cases vlo <;> simp only [RepO] at hlo
    cases vhi <;> simp only [RepO, RepV] at hhi
    cases vmx <;> simp only [RepO, RepV] at hmx
    subst hhi hmx
    have hx' := hx
    simp only [RepV] at hx'
    obtain ⟨a, n, cp, rfl, hn, hc, hm, han, hno, hr⟩ := hx'
    refine ⟨_, run_slice_ok hon he hoe hT a n cp _ _ _ _ _ _ (bounds_hm h0 h01 (by omega) _), ?_⟩
    have := sl_sliced hx (T (T t).elem).size 0 HH.toNat MM.toNat (by omega) (by omega) hk a n cp rfl (by omega) (by omega)
    simpa using this
  · rename_i id off n full kH HH
    cases hb : h id with
    | none => simp [hb] at hp
    | some blk =>
      cases blk with
      | box ty cells => simp [hb] at hp
      | arr k ty es =>
        simp only [hb] at hp ⊢
        obtain ⟨h0, h1, hon, he, hoe, hk⟩ := hp
        cases vlo <;> simp only [RepO] at hlo
        cases vmx <;> simp only [RepO] at hmx
        cases vhi <;> simp only [RepO, RepV] at hhi
        subst hhi
        obtain ⟨cur, hheap, hsz, hcap, hk1, hle, hnoid, hR⟩ := H.blk id _ hb
        obtain ⟨a, cp, rfl, hn, hr⟩ := ref_sliced hx hk1 (by rw [H.sh, hb]; rfl) 0 HH.toNat (v := v) (m := (match v with | .slice _ _ cp => cp | _ => 0)) full (by omega) (by omega)
        refine ⟨_, run_slice_ok hon he hoe hT a n cp _ _ _ _ _ _ (bounds_h h0 (by omega) _), ?_⟩
        have := hr (by simp; omega) (by simp) (fun h => ⟨h, rfl⟩)
        simpa [hk] using this
  · rename_i id off n full kL LL
    cases hb : h id with
    | none => simp [hb] at hp
    | some blk =>
      cases blk with
      | box ty cells => simp [hb] at hp
      | arr k ty es =>
        simp only [hb] at hp ⊢
        obtain ⟨h0, h1, hon, he, hoe, hk⟩ := hp
        cases vhi <;> simp only [RepO] at hhi
        cases vmx <;> simp only [RepO] at hmx
        cases vlo <;> simp only [RepO, RepV] at hlo
        subst hlo
        obtain ⟨cur, hheap, hsz, hcap, hk1, hle, hnoid, hR⟩ := H.blk id _ hb
        obtain ⟨a, cp, rfl, hn, hr⟩ := ref_sliced hx hk1 (by rw [H.sh, hb]; rfl) LL.toNat n (v := v) (m := (match v with | .slice _ _ cp => cp | _ => 0)) full (by omega) (by omega)
        refine ⟨_, run_slice_ok hon he hoe hT a n cp _ _ _ _ _ _ (bounds_l h0 (by omega) _), ?_⟩
        have := hr (by simp; omega) (by simp) (fun h => ⟨h, rfl⟩)
        simpa [hk] using this
  · rename_i id off n full kH HH kM MM
    cases hb : h id with
    | none => simp [hb] at hp
    | some blk =>
      cases blk with
      | box ty cells => simp [hb] at hp
      | arr k ty es =>
        simp only [hb] at hp ⊢
        obtain ⟨h0, h01, h1, hon, he, hoe, hk⟩ := hp
        cases vlo <;> simp only [RepO] at hlo
        cases vhi <;> simp only [RepO, RepV] at hhi
        cases vmx <;> simp only [RepO, RepV] at hmx
        subst hhi hmx
        obtain ⟨cur, hheap, hsz, hcap, hk1, hle, hnoid, hR⟩ := H.blk id _ hb
        obtain ⟨a, cp, rfl, hn, hr⟩ := ref_sliced hx hk1 (by rw [H.sh, hb]; rfl) 0 HH.toNat (v := v) (m := MM.toNat) false (by omega) (by omega)
        refine ⟨_, run_slice_ok hon he hoe hT a n cp _ _ _ _ _ _ (bounds_hm h0 h01 (by omega) _), ?_⟩
        have := hr (by omega) (by omega) (fun h => by cases h)
        simpa [hk] using this
  · rename_i kH HH
    obtain ⟨h0, hon, he, hoe⟩ := hp
    cases vlo <;> simp only [RepO] at hlo
    cases vmx <;> simp only [RepO] at hmx
    cases vhi <;> simp only [RepO, RepV] at hhi
    subst hhi
    simp only [RepV] at hx ⊢
    subst hx
    exact ⟨_, run_slice_ok hon he hoe hT none 0 0 _ _ _ _ _ _ (bounds_h (by omega) (by omega) _), nils_sliced _ _ (by omega)⟩
  · rename_i kH HH kM MM
    obtain ⟨h0, h1, hon, he, hoe⟩ := hp
    cases vlo <;> simp only [RepO] at hlo
    cases vhi <;> simp only [RepO, RepV] at hhi
    cases vmx <;> simp only [RepO, RepV] at hmx
    subst hhi hmx
    simp only [RepV] at hx ⊢
    subst hx
    refine ⟨_, run_slice_ok hon he hoe hT none 0 0 _ _ _ _ _ _ (bounds_hm (by omega) (by omega) (by omega) _), ?_⟩
    subst h1
    exact nils_sliced _ _ (by omega)
  · rename_i kL LL
    obtain ⟨h0, hon, he, hoe⟩ := hp
    cases vhi <;> simp only [RepO] at hhi
    cases vmx <;> simp only [RepO] at hmx
    cases vlo <;> simp only [RepO, RepV] at hlo
    subst hlo
    simp only [RepV] at hx ⊢
    subst hx
    subst h0
    exact ⟨_, run_slice_ok hon he hoe hT none 0 0 _ _ _ _ _ _ (bounds_l (by omega) (by omega) _), nils_sliced _ _ rfl⟩
  · rename_i s kH HH
    obtain ⟨h0, h1, hon, hst⟩ := hp
    have hu := (hT t hon).str hst
    cases vlo <;> simp only [RepO] at hlo
    cases vmx <;> simp only [RepO] at hmx
    cases vhi <;> simp only [RepO, RepV] at hhi
    subst hhi
    simp only [RepV] at hx
    subst hx
    exact ⟨_, by rw [sliceAt_str hu]; exact run_slice_string_h (P := P) c.w t s hu kH HH h0 h1, rfl⟩
  · rename_i s kL LL
    obtain ⟨h0, h1, hon, hst⟩ := hp
    have hu := (hT t hon).str hst
    cases vhi <;> simp only [RepO] at hhi
    cases vmx <;> simp only [RepO] at hmx
    cases vlo <;> simp only [RepO, RepV] at hlo
    subst hlo
    simp only [RepV] at hx
    subst hx
    exact ⟨_, by rw [sliceAt_str hu]; exact run_slice_string_l (P := P) c.w t s hu kL LL h0 h1, rfl⟩
  · rename_i s kL LL kH HH
    obtain ⟨h0, h1, h2, hon, hst⟩ := hp
    have hu := (hT t hon).str hst
    cases vmx <;> simp only [RepO] at hmx
    cases vlo <;> simp only [RepO, RepV] at hlo
    cases vhi <;> simp only [RepO, RepV] at hhi
    subst hlo
    subst hhi
    simp only [RepV] at hx
    subst hx
    exact ⟨_, by rw [sliceAt_str hu]; exact run_slice_string (P := P) c.w t s kL kH LL HH hu h0 h1 h2, rfl⟩
  · exact hp.elim

theorem lenV_sound (hT : TOK P T) (H : Hp c h) {t ty : TypeId} {x : IV} {v : Value} (hx : RepV c x v) (hp : (lenV T h t x).2) :
    ∃ y, (Builtin.len_ #[t] ty #[v]).run P c.w = .ok y c.w ∧ RepV c (lenV T h t x).1 y := by
  cases x with
  | sl k es =>
    simp only [lenV] at hp ⊢
    simp only [RepV] at hx ⊢
    obtain ⟨a, n, cp, rfl, hn, _⟩ := hx
    exact ⟨_, run_len_slice _ _ _ _ _ _ (by rw [elem_eq (hT t hp.1) hp.2]; exact (hT t hp.1).slice hp.2), by rw [hn]; rfl⟩
  | ref id off n full =>
    simp only [lenV] at hp ⊢
    obtain ⟨hon, he⟩ := hp
    simp only [RepV] at hx ⊢
    obtain ⟨a, cp, rfl, _⟩ := hx
    exact ⟨_, run_len_slice _ _ _ _ _ _ (by rw [elem_eq (hT t hon) he]; exact (hT t hon).slice he), rfl⟩
  | nils =>
    simp only [lenV] at hp ⊢
    simp only [RepV] at hx ⊢
    subst hx
    exact ⟨_, run_len_slice _ _ _ _ _ _ (by rw [elem_eq (hT t hp.1) hp.2]; exact (hT t hp.1).slice hp.2), rfl⟩
  | str s =>
    simp only [lenV] at hp ⊢
    simp only [RepV] at hx ⊢
    subst hx
    exact ⟨_, run_len_string _ _ _ _ ((hT t hp.1).str hp.2), rfl⟩
  | _ => simp [lenV] at hp

theorem nums_of : ∀ {l : List IV} {vs : List Value}, RepL c l vs → numsOnly l = true → ∃ xs : List Int, vs = xs.map (Value.int .i64) ∧ l = xs.map (IV.num .i64)
  | [], vs, h, _ => ⟨[], by simpa [RepL] using h, rfl⟩
  | x :: l, vs, h, hn => by
    simp only [RepL] at h
    obtain ⟨v, r, rfl, hx, hl⟩ := h
    cases x with
    | num k n =>
      cases k <;> simp [numsOnly] at hn
      obtain ⟨xs, hr, hl'⟩ := nums_of hl hn
      simp only [RepV] at hx
      exact ⟨n :: xs, by simp [hr, hx], by simp [hl']⟩
    | _ => simp [numsOnly] at hn

theorem eqL_nums : ∀ (xs ys : List Int), eqL (xs.map (IV.num .i64)) (ys.map (IV.num .i64)) = decide (xs = ys)
  | [], [] => by simp [eqL]
  | [], _ :: _ => by simp [eqL]
  | _ :: _, [] => by simp [eqL]
  | x :: xs, y :: ys => by
    simp only [List.map_cons, eqL, eqL_nums xs ys, List.cons.injEq]
    by_cases h : x = y <;> simp [h]

theorem binV_sound (hT : TOK P T) {op : BinOp} {t : TypeId} {x y : IV} {u v : Value} (X Y : Operand) (hx : RepV c x u) (hy : RepV c y v) (hp : (binV T (isC X || isC Y) op t x y).2) :
    ∃ z, (do eqGuard op t X Y u v; binOp op t u v).run P c.w = .ok z c.w ∧ RepV c (binV T (isC X || isC Y) op t x y).1 z := by
  cases x with
  | num k a =>
    cases y with
    | num k' b =>
      simp only [RepV] at hx hy
      subst hx hy
      have he : ∀ op, (eqGuard op t X Y (.int k a) (.int k' b)) = pure () := fun op => by cases op <;> rfl
      cases op <;> simp only [binV] at hp ⊢ <;> first
        | exact hp.elim
        | (obtain ⟨rfl, hp2⟩ := hp; simp [he, binOp, Op.intDiv, hp2, RepV])
        | (subst hp; simp [he, binOp, Op.intArith, Op.intCmp, Op.intBits, bits, RepV])
    | _ => simp [binV] at hp
  | bool a =>
    cases y with
    | bool b =>
      simp only [RepV] at hx hy
      subst hx hy
      cases op <;> simp only [binV] at hp ⊢ <;> first
        | exact hp.elim
        | (simp only [eqGuard_at_bool, Sem.run_bind, Sem.run_pure, Result.andThen_ok, run_eql_bool _ _ _ _ ((hT t hp.1).bool hp.2)]; exact ⟨_, rfl, rfl⟩)
        | (simp only [eqGuard_at_bool, Sem.run_bind, Sem.run_pure, Result.andThen_ok, run_neq_bool _ _ _ _ ((hT t hp.1).bool hp.2)]; exact ⟨_, rfl, rfl⟩)
    | _ => simp [binV] at hp
  | agg l =>
    cases y with
    | agg l' =>
      simp only [RepV] at hx hy
      obtain ⟨vs, rfl, hl⟩ := hx
      obtain ⟨vs', rfl, hl'⟩ := hy
      have key : ∀ op, (T t).on = true → (T t).eqb = true → numsOnly l = true → numsOnly l' = true → l.length = (T t).size → l'.length = (T t).size →
          (eqGuard op t X Y (.agg ⟨vs⟩) (.agg ⟨vs'⟩)).run P c.w = .ok () c.w ∧ (Op.equal t (.agg ⟨vs⟩) (.agg ⟨vs'⟩)).run P c.w = .ok (eqL l l') c.w := by
        intro op h1 h2 h3 h4 h5 h6
        obtain ⟨xs, rfl, rfl⟩ := nums_of hl h3
        obtain ⟨ys, rfl, rfl⟩ := nums_of hl' h4
        rw [eqL_nums]
        exact (hT t h1).eqg h2 op X Y xs ys c.w (by simpa using h5) (by simpa using h6)
      cases op <;> simp only [binV] at hp ⊢ <;> first
        | exact hp.elim
        | (obtain ⟨h1, h2, h3, h4, h5, h6⟩ := hp
           obtain ⟨k1, k2⟩ := key .eql h1 h2 h3 h4 h5 h6
           obtain ⟨k3, _⟩ := key .neq h1 h2 h3 h4 h5 h6
           simp [k1, k2, k3, binOp, RepV])
    | _ => simp [binV] at hp
  | sl k es =>
    cases y with
    | nils =>
      simp only [RepV] at hx hy
      obtain ⟨a, n, cp, rfl, hn, hc, hm, han, hno, hr⟩ := hx
      subst hy
      cases op <;> simp only [binV] at hp ⊢ <;> first
        | exact hp.elim
        | (obtain ⟨hon, he⟩ := hp
           cases hes : es.isEmpty with
           | true =>
             simp only [eqGuard_at_slice, Sem.run_bind, Sem.run_pure, Result.andThen_ok]
             cases a <;> simp [binOp, run_equal_slice_nil c.w t _ _ n cp ((hT t hon).slice he), RepV]
           | false =>
             have h0 : 0 < n := by rw [hn]; exact List.length_pos_iff.2 (by rintro rfl; simp at hes)
             obtain ⟨b, o, rfl, _⟩ := hr h0
             simp only [eqGuard_at_slice, Sem.run_bind, Sem.run_pure, Result.andThen_ok]
             simp [binOp, run_equal_slice_nil c.w t _ (some ⟨b, o, none⟩) n cp ((hT t hon).slice he), RepV])
    | _ => simp [binV] at hp
  | nils =>
    cases y with
    | nils =>
      simp only [RepV] at hx hy
      subst hx hy
      cases op <;> simp only [binV] at hp ⊢ <;> first
        | exact hp.elim
        | (obtain ⟨hon, he⟩ := hp
           simp only [eqGuard_at_slice, Sem.run_bind, Sem.run_pure, Result.andThen_ok]
           simp [binOp, run_equal_slice_nil c.w t _ none 0 0 ((hT t hon).slice he), RepV])
    | _ => simp [binV] at hp
  | str a =>
    cases y with
    | str b =>
      simp only [RepV] at hx hy
      subst hx hy
      have he : ∀ op, (eqGuard op t X Y (.string a) (.string b)) = pure () := fun op => by cases op <;> rfl
      cases op <;> simp only [binV] at hp ⊢ <;> first
        | exact hp.elim
        | (have hle : ¬ (((a.size + b.size : Nat) : Int) > IntKind.i64.max) := by
             have e2 : IntKind.i64.max = 9223372036854775807 := rfl
             rw [e2]; omega
           simp [he, binOp, Op.stringOp, hle, RepV]
           try omega)
        | simp [he, binOp, Op.stringOp, RepV]
    | _ => simp [binV] at hp
  | nilI =>
    cases y with
    | nilI =>
      simp only [RepV] at hx hy
      subst hx hy
      cases op <;> simp only [binV] at hp ⊢ <;> first
        | exact hp.elim
        | (obtain ⟨hcn, hon, hi⟩ := hp
           obtain ⟨ms, hu⟩ := (hT t hon).ifc hi
           have hq : ∀ d : Nat, (Op.equalIn (d + 1) t .nilIface .nilIface).run P c.w = .ok true c.w := fun d => by simp [Op.equalIn, run_underlying hu]
           have hg : ∀ o : BinOp, (eqGuard o t X Y .nilIface .nilIface).run P c.w = .ok () c.w := fun o => by
             cases X <;> cases Y <;> first | (simp [isC] at hcn; done) | (cases o <;> rfl)
           have e := hq 9999
           simp [hg, binOp, Op.equal, Op.maxDepth, e, RepV])
    | _ => simp [binV] at hp
  | ifc =>
    cases y with
    | nilI =>
      simp only [RepV] at hx hy
      obtain ⟨tx, vx, rfl⟩ := hx
      subst hy
      cases op <;> simp only [binV] at hp ⊢ <;> first
        | exact hp.elim
        | (obtain ⟨hon, hi⟩ := hp
           obtain ⟨ms, hu⟩ := (hT t hon).ifc hi
           have hq : ∀ d : Nat, (Op.equalIn (d + 1) t (.iface tx vx) .nilIface).run P c.w = .ok false c.w := fun d => by simp [Op.equalIn, run_underlying hu]
           have hg : ∀ o : BinOp, (eqGuard o t X Y (.iface tx vx) .nilIface) = pure () := fun o => by cases o <;> rfl
           have e := hq 9999
           simp [hg, binOp, Op.equal, Op.maxDepth, e, RepV])
    | _ => simp [binV] at hp
  | _ => cases y <;> simp [binV] at hp


/-! ### structs built -/

def overV (l : List Value) (o : Nat) (cs : List Value) : List Value := l.take o ++ cs ++ l.drop (o + cs.length)

theorem RepL.lay {l : List IV} {vs : List Value} {cs : List IV} {us : List Value} (hl : RepL c l vs) (hc : RepL c cs us) (o : Nat) : RepL c (over l o cs) (overV vs o us) := by
  unfold Ideal.over overV
  rw [hc.length]
  exact ((hl.take o).append hc).append (hl.drop _)

theorem fold_over (cs : List Value) : ∀ (j o : Nat) (l : List Value), o + j + cs.length ≤ l.length →
    ((cs.zipIdx j).foldl (fun (acc : Array Value) (p : Value × Nat) => acc.setIfInBounds (o + p.2) p.1) ⟨l⟩) = ⟨overV l (o + j) cs⟩ := by
  induction cs with
  | nil => intro j o l h; simp [overV]
  | cons x cs ih =>
    intro j o l h
    simp only [List.zipIdx_cons, List.foldl_cons]
    have e : (⟨l⟩ : Array Value).setIfInBounds (o + j) x = ⟨l.set (o + j) x⟩ := by simp
    rw [e, ih (j + 1) o _ (by simp at h ⊢; omega)]
    congr 1
    unfold overV
    simp at h
    rw [show o + (j + 1) = o + j + 1 by omega]
    have h1 : (l.set (o + j) x).take (o + j + 1) = l.take (o + j) ++ [x] := by
      rw [List.take_succ_eq_append_getElem (by simp; omega)]
      simp [List.take_set_of_le]
    have h2 : (l.set (o + j) x).drop (o + j + 1 + cs.length) = l.drop (o + j + (x :: cs).length) := by
      rw [List.drop_set_of_lt (by omega)]
      congr 1
      simp; omega
    rw [h1, h2]
    simp

theorem cells_rep {x : IV} {v : Value} (hx : RepV c x v) (hs : solid x = true) : RepL c x.cells v.cells.toList := by
  have one : ∀ u : Value, v = u → u.cells = #[u] → x.cells = [x] → RepL c x.cells v.cells.toList := by
    intro u hu hc hxc
    subst hu
    rw [hxc, hc]
    simp only [RepL]
    exact ⟨v, [], rfl, hx, rfl⟩
  cases x with
  | agg l =>
    simp only [RepV] at hx
    obtain ⟨vs, rfl, hl⟩ := hx
    simpa [IV.cells, Value.cells] using hl
  | junk => simp [solid] at hs
  | opt b y => simp [solid] at hs
  | tup l => simp [solid] at hs
  | num k n => simp only [RepV] at hx; exact one _ hx rfl rfl
  | bool b => simp only [RepV] at hx; exact one _ hx rfl rfl
  | str b => simp only [RepV] at hx; exact one _ hx rfl rfl
  | nils => simp only [RepV] at hx; exact one _ hx rfl rfl
  | nilp => simp only [RepV] at hx; exact one _ hx rfl rfl
  | nilI => simp only [RepV] at hx; exact one _ hx rfl rfl
  | sl k es =>
    have h0 := hx
    simp only [RepV] at hx
    obtain ⟨a, n, cp, rfl, _⟩ := hx
    exact one _ rfl rfl rfl
  | ptr id off =>
    have h0 := hx
    simp only [RepV] at hx
    obtain ⟨a, rfl, _⟩ := hx
    exact one _ rfl rfl rfl
  | aptr id i off =>
    have h0 := hx
    simp only [RepV] at hx
    obtain ⟨a, rfl, _⟩ := hx
    exact one _ rfl rfl rfl
  | eptr k e off =>
    simp only [RepV] at hx
    obtain ⟨b, o, y, rfl, _⟩ := hx
    exact one _ rfl rfl rfl
  | ref id off n f =>
    have h0 := hx
    simp only [RepV] at hx
    obtain ⟨a, cp, rfl, _⟩ := hx
    exact one _ rfl rfl rfl
  | clo g caps =>
    simp only [RepV] at hx
    obtain ⟨cs, rfl, _⟩ := hx
    exact one _ rfl rfl rfl
  | ifc =>
    simp only [RepV] at hx
    obtain ⟨t, y, rfl⟩ := hx
    exact one _ rfl rfl rfl
  | anyB =>
    simp only [RepV] at hx
    obtain ⟨b, rfl⟩ := hx
    exact one _ rfl rfl rfl
  | lsl a n cp => simp only [RepV] at hx; exact one _ hx rfl rfl

end
end Go.Ideal

/- The evaluator is right: every operation that makes nothing. -/
set_option linter.unusedVariables false
set_option linter.unusedSimpArgs false
namespace Go.Ideal
open Go

section
variable {P : Program} {T : Nat → TD} {c : Ctx} {h : Nat → Option IBlk}

/-- Parts of a struct or of a list, pairwise. -/
def RepP (c : Ctx) : List (Nat × IV) → List (Nat × Value) → Prop
  | [], l => l = []
  | (i, x) :: p, l => ∃ v r, l = (i, v) :: r ∧ RepV c x v ∧ RepP c p r

theorem fill_more {F G : Nat → Option (Nat × Nat)} (hFG : ∀ i x, F i = some x → G i = some x) : ∀ (parts : List (Nat × Value)) (cells r : Array Value), Instr.fill F cells parts = some r → Instr.fill G cells parts = some r
  | [], cells, r, h => h
  | (i, v) :: rest, cells, r, h => by
    unfold Instr.fill at h ⊢
    cases hF : F i with
    | none => rw [hF] at h; cases h
    | some x =>
      rw [hF] at h
      rw [hFG i x hF]
      simp only at h ⊢
      split at h
      · cases h
      · rename_i hc
        rw [if_neg hc]
        exact fill_more hFG rest _ r h
theorem fill_sound (offs : List (Nat × Nat)) : ∀ (parts : List (Nat × IV)) (parts' : List (Nat × Value)) (l : List IV) (vs : List Value),
    RepP c parts parts' → RepL c l vs → (buildL offs l parts).2 →
    ∃ vs', Instr.fill (fun i => (⟨offs⟩ : Array (Nat × Nat))[i]?) ⟨vs⟩ parts' = some ⟨vs'⟩ ∧ RepL c (buildL offs l parts).1 vs'
  | [], parts', l, vs, hp, hl, _ => by
    simp only [RepP] at hp
    subst hp
    exact ⟨vs, rfl, hl⟩
  | (i, x) :: parts, parts', l, vs, hp, hl, hb => by
    simp only [RepP] at hp
    obtain ⟨v, r, rfl, hx, hr⟩ := hp
    simp only [buildL] at hb ⊢
    obtain ⟨hi, hs, hlen, hfit, hrest⟩ := hb
    have hcs := cells_rep hx hs
    have hcl := hcs.length
    have hll := hl.length
    have hsz : v.cells.size = (offs.getD i (0, 0)).2 := by
      rw [← hlen, ← hcl]; simp
    have hcl2 : v.cells.size = x.cells.length := by rw [← hcl]; simp
    have hg : (⟨offs⟩ : Array (Nat × Nat))[i]? = some (offs.getD i (0, 0)) := by
      simp [List.getD, List.getElem?_eq_getElem hi]
    have hrest0 := hrest
    generalize hq : offs.getD i (0, 0) = q at *
    have hfold : (v.cells.zipIdx.foldl (fun (cs : Array Value) (p : Value × Nat) => cs.setIfInBounds (q.1 + p.2) p.1) ⟨vs⟩) = ⟨overV vs q.1 v.cells.toList⟩ := by
      have := fold_over v.cells.toList 0 q.1 vs (by simp at hcl ⊢; omega)
      rw [← Array.foldl_toList]
      simpa using this
    obtain ⟨vs', hf, hR⟩ := fill_sound offs parts r _ _ hr (hl.lay hcs q.1) hrest
    refine ⟨vs', ?_, hR⟩
    unfold Instr.fill
    simp only [hg]
    rw [if_neg (by simp only [List.size_toArray, ne_eq, Bool.or_eq_true, decide_eq_true_eq, not_or]; exact ⟨by simpa using hsz, by omega⟩)]
    exact hfold ▸ hf

theorem RepO_map {g : Operand → IV} {ρ : Operand → Value} {l : Option Operand} (hg : ∀ x ∈ l.toArray, RepV c (g x) (ρ x)) : RepO c (l.map g) (l.map ρ) := by
  cases l with
  | none => simp [RepO]
  | some x => exact hg x (by simp)

theorem RepL_map {g : Operand → IV} {ρ : Operand → Value} : ∀ {l : List Operand}, (∀ x ∈ l, RepV c (g x) (ρ x)) → RepL c (l.map g) (l.map ρ)
  | [], _ => by simp [RepL]
  | x :: l, hg => by
    simp only [List.map_cons, RepL]
    exact ⟨_, _, rfl, hg x (by simp), RepL_map (fun y hy => hg y (by simp [hy]))⟩

theorem RepP_map {g : Operand → IV} {ρ : Operand → Value} : ∀ {l : List (Nat × Operand)}, (∀ p ∈ l, RepV c (g p.2) (ρ p.2)) → RepP c (l.map fun p => (p.1, g p.2)) (l.map fun p => (p.1, ρ p.2))
  | [], _ => by simp [RepP]
  | x :: l, hg => by
    simp only [List.map_cons, RepP]
    exact ⟨_, _, rfl, hg x (by simp), RepP_map (fun y hy => hg y (by simp [hy]))⟩

theorem isInt_some {t : TypeId} (hT : TOK P T) (hon : (T t).on = true) (hi : (T t).ik.isSome = true) : (P.underlying t).isSome = true := by
  obtain ⟨k, hk⟩ := Option.isSome_iff_exists.mp hi
  rw [(hT t hon).int k hk]; rfl

theorem pureV_sound (hT : TOK P T) (H : Hp c h) {g : Operand → IV} {ρ : Operand → Value} (o : Oper) (hg : ∀ x ∈ o.op.operands.toList, RepV c (g x) (ρ x)) (hp : (pureV T g h o.op).2) :
    ∃ y, (execOp ρ o).run P c.w = .ok (.value y) c.w ∧ RepV c (pureV T g h o.op).1 y := by
  obtain ⟨dst, op, ty, pos, aft, gd⟩ := o
  simp only at hg hp ⊢
  have fin : ∀ (s : Sem Value), execOp ρ ⟨dst, op, ty, pos, aft, gd⟩ = (do pure (.value (← s))) → (∃ y, s.run P c.w = .ok y c.w ∧ RepV c (pureV T g h op).1 y) →
      ∃ y, (execOp ρ ⟨dst, op, ty, pos, aft, gd⟩).run P c.w = .ok (.value y) c.w ∧ RepV c (pureV T g h op).1 y := by
    rintro s hs ⟨y, hy, hr⟩
    exact ⟨y, by rw [hs]; simp [hy], hr⟩
  cases op with
  | move x => exact ⟨ρ x, by simp [execOp], hg x (by simp [Op.operands])⟩
  | assign x => exact ⟨ρ x, by simp [execOp], hg x (by simp [Op.operands])⟩
  | binOp bop t x y yt =>
    exact fin _ rfl (binV_sound hT x y (hg x (by simp [Op.operands])) (hg y (by simp [Op.operands])) hp)
  | unOp uop t x =>
    refine fin _ rfl ?_
    have hx := hg x (by simp [Op.operands])
    cases uop with
    | neg =>
      simp only [pureV] at hp ⊢
      cases hgx : g x <;> rw [hgx] at hx hp <;> first | exact hp.elim | skip
      simp only [RepV] at hx ⊢
      rw [hx]
      simp [Op.unary, Op.intArith]
    | not =>
      simp only [pureV] at hp ⊢
      cases hgx : g x <;> rw [hgx] at hx hp <;> first | exact hp.elim | skip
      simp only [RepV] at hx ⊢
      rw [hx]
      simp [Op.unary]
    | xor => simp [pureV] at hp
    | plus => simp [pureV] at hp
  | convert s d x =>
    refine fin _ rfl ?_
    have hx := hg x (by simp [Op.operands])
    simp only [pureV] at hp ⊢
    cases hgx : g x with
    | num k n =>
      rw [hgx] at hx hp
      simp only [convertV] at hp ⊢
      cases hd : (T d).ik with
      | none => simp [hd] at hp
      | some kd =>
        simp only [hd] at hp ⊢
        obtain ⟨hond, hons, his⟩ := hp
        simp only [RepV] at hx ⊢
        rw [hx]
        have hu := (hT d hond).int kd hd
        obtain ⟨k', hk'⟩ := Option.isSome_iff_exists.mp his
        have hu' := (hT s hons).int k' hk'
        refine ⟨_, ?_, rfl⟩
        simp [convert, run_underlying hu', run_underlying hu, Conv.intToInt]
    | ref id off n full =>
      rw [hgx] at hx hp
      simp only [convertV] at hp ⊢
      split at hp
      · rename_i k ty a hb
        obtain ⟨rfl, rfl, rfl, h0, h1, hond, hst, hons, hel, hone, hei⟩ := hp
        simp only [RepV] at hx
        obtain ⟨cur, hheap, hsz, hcap, hk1, hle, hnoid, hR⟩ := H.blk id _ hb
        have hs : c.sh id = some 1 := by rw [H.sh, hb]; rfl
        obtain ⟨ad, cp, hv, han, hx⟩ := hx
        obtain ⟨hn, _, _, ha⟩ := hx 1 hk1 hs
        have had := ha (.inl (by omega))
        simp only [RepR] at hR
        obtain ⟨⟨y, hy, _, hc⟩, _⟩ := hR
        simp only [RepV] at hy
        subst hy
        have hc0 := (hc 0 (by omega)).trans (b := (Value.int .u8 a).cells[0]?) (c := some (Value.int .u8 a)) rfl
        simp only [hb]
        refine ⟨.string ⟨#[UInt8.ofNat a.toNat]⟩, ?_, rfl⟩
        rw [hv, had]
        have he : (UInt8.ofNat a.toNat).toNat = a.toNat := by simp; omega
        refine run_convert_bytes_back c.w s d (T s).elem _ cp [UInt8.ofNat a.toNat] ((hT s hons).slice hel) ((hT _ hone).int _ hei) ((hT d hond).str hst) (fun j hj => ?_)
        have hj0 : j = 0 := by simpa using hj
        subst hj0
        simp only [List.getElem_cons_zero, he]
        have e : ((a.toNat : Nat) : Int) = a := by omega
        rw [e]
        simpa [Addr.add_off] using hc0
      · exact hp.elim
    | _ => rw [hgx] at hp; exact hp.elim
  | index t x i =>
    refine fin _ rfl ?_
    have hx := hg x (by simp [Op.operands])
    have hi := hg i (by simp [Op.operands])
    simp only [pureV] at hp ⊢
    cases hgx : g x with
    | str s =>
      cases hgi : g i with
      | num k n =>
        rw [hgx] at hx hp
        rw [hgi] at hi hp
        simp only at hp ⊢
        obtain ⟨h0, h1, hon, hst⟩ := hp
        simp only [RepV] at hx hi ⊢
        rw [hx, hi]
        have hu := (hT t hon).str hst
        have hlt : n.toNat < s.size := by omega
        refine ⟨_, (run_index_string (P := P) c.w t s k n hu).trans (by rw [dif_pos ⟨h0, h1⟩]), ?_⟩
        have hlt' : n.toNat < s.data.size := hlt
        have e : s.data.getD n.toNat 0 = s[n.toNat] := by
          rw [Array.getD_eq_getD_getElem?, Array.getElem?_eq_getElem hlt']; rfl
        rw [e]
      | _ => rw [hgx, hgi] at hp; exact hp.elim
    | _ => rw [hgx] at hp; cases hgi : g i <;> rw [hgi] at hp <;> exact hp.elim
  | load t x => exact fin _ rfl (loadV_sound hT H (hg x (by simp [Op.operands])) hp)
  | fieldAddr t x f => exact fin _ rfl (faddrV_sound hT H (hg x (by simp [Op.operands])) hp)
  | field t x f =>
    refine fin _ rfl ?_
    have hx := hg x (by simp [Op.operands])
    simp only [pureV] at hp ⊢
    cases hgx : g x with
    | agg l =>
      rw [hgx] at hx hp
      simp only at hp ⊢
      obtain ⟨hp1, hon, hf⟩ := hp
      simp only [RepV] at hx
      obtain ⟨vs, hv, hl⟩ := hx
      obtain ⟨fs, fd, hu, hfd, ho, hs0, hsz, hag, _⟩ := (hT t hon).field f _ _ (offs_get hf)
      obtain ⟨hlen, hr⟩ := partV_sound hl hp1 (by omega)
      refine ⟨_, ?_, hr⟩
      rw [hv]
      simp only [Instr.field, Sem.run_bind, run_underlying hu, Result.andThen_ok, hfd, asAgg, Sem.run_pure, part, hag, ho]
      by_cases h2 : 2 ≤ ((T t).offs.getD f (0, 0)).2
      · simp only [h2, decide_true, if_true, Sem.run_bind, hsz, Result.andThen_ok, Sem.run_pure]
        congr 2
        simp [List.extract_eq_take_drop]
      · have h1 : ((T t).offs.getD f (0, 0)).2 = 1 := by omega
        have h2' : ¬ 2 ≤ 1 := by omega
        rw [h1] at hlen ⊢
        simp only [h2', decide_false, if_false, Bool.false_eq_true]
        have hlt : ((T t).offs.getD f (0, 0)).1 < vs.length := by
          rw [List.length_take, List.length_drop] at hlen; omega
        have e : (⟨vs⟩ : Array Value)[((T t).offs.getD f (0, 0)).1]? = some vs[((T t).offs.getD f (0, 0)).1] := by simp [hlt]
        have e2 : (vs.drop ((T t).offs.getD f (0, 0)).1).take 1 = [vs[((T t).offs.getD f (0, 0)).1]] := by
          rw [List.drop_eq_getElem_cons hlt]; rfl
        rw [e, e2]
        simp
    | _ => rw [hgx] at hp; exact hp.elim
  | indexAddr t x i => exact fin _ rfl (iaddrV_sound hT H (hg x (by simp [Op.operands])) (hg i (by simp [Op.operands])) hp)
  | slice t x lo hi mx =>
    exact fin _ rfl (sliceV_sound hT H (hg x (by simp [Op.operands])) (RepO_map fun y hy => hg y (by simp [Op.operands] at hy ⊢; simp [hy]))
      (RepO_map fun y hy => hg y (by simp [Op.operands] at hy ⊢; simp [hy])) (RepO_map fun y hy => hg y (by simp [Op.operands] at hy ⊢; simp [hy])) hp)
  | extract x i =>
    refine fin _ rfl ?_
    have hx := hg x (by simp [Op.operands])
    simp only [pureV] at hp ⊢
    cases hgx : g x with
    | tup l =>
      rw [hgx] at hx hp
      simp only at hp ⊢
      simp only [RepV] at hx
      obtain ⟨vs, hv, hl⟩ := hx
      obtain ⟨u, hu, hr⟩ := hl.get i hp
      refine ⟨u, ?_, hr⟩
      rw [hv]
      have : (⟨vs⟩ : Array Value)[i]? = some u := by simpa using hu
      simp [Instr.extract, this]
    | _ => rw [hgx] at hp; exact hp.elim
  | build t parts =>
    refine fin _ rfl ?_
    simp only [pureV] at hp ⊢
    rcases Classical.em ((T t).alen ≠ 0) with hal | hal
    · rw [if_neg hal] at hp ⊢
      obtain ⟨hb, hon⟩ := hp
      obtain ⟨i, z, hi, _, _, hz, _, hfree⟩ := (hT t hon).info
      obtain ⟨hu, hm, ho⟩ := (hT t hon).arr hal
      obtain ⟨vs', hf, hR⟩ := fill_sound (c := c) (T t).aoffs _ _ _ _ (RepP_map (c := c) (g := g) (ρ := ρ) (l := parts.toList) (fun p hp => hg p.2 (by simp [Op.operands]; exact ⟨p.1, by simpa using hp⟩))) (hfree c) hb
      refine ⟨.agg ⟨vs'⟩, ?_, ?_⟩
      · simp only [Instr.build, zeroValue, typeInfo, Sem.run_bind, run_program, Result.andThen_ok, hi, Sem.run_pure, hz, run_underlying hu, hm]
        have e : (parts.map fun p => (p.1, ρ p.2)).toList = parts.toList.map fun p => (p.1, ρ p.2) := by simp
        have e2 : (⟨z.cells.toList⟩ : Array Value) = z.cells := by simp
        rw [e2] at hf
        have hf' : Instr.fill (fun i => some (i * 1, 1)) z.cells (parts.map fun p => (p.1, ρ p.2)).toList = some ⟨vs'⟩ := by
          rw [e]
          refine fill_more (fun i x hx => ?_) _ _ _ hf
          rw [ho] at hx
          simp only [List.getElem?_toArray, List.getElem?_map] at hx
          cases hr : (List.range (T t).alen)[i]? with
          | none => rw [hr] at hx; cases hx
          | some y =>
            rw [hr] at hx
            obtain ⟨_, hy⟩ := List.getElem?_eq_some_iff.1 hr
            simp at hy hx
            rw [← hx, ← hy, Nat.mul_one]
        simp only [hf', Sem.run_pure]
      · simp only [RepV]
        exact ⟨vs', rfl, hR⟩
    replace hal : (T t).alen = 0 := Classical.not_not.1 hal
    rw [if_pos hal] at hp ⊢
    obtain ⟨hb, hon, hne⟩ := hp
    obtain ⟨i, z, hi, _, _, hz, _, hfree⟩ := (hT t hon).info
    obtain ⟨fs, hu, hm⟩ := (hT t hon).places hne
    obtain ⟨vs', hf, hR⟩ := fill_sound (c := c) (T t).offs _ _ _ _ (RepP_map (c := c) (g := g) (ρ := ρ) (l := parts.toList) (fun p hp => hg p.2 (by simp [Op.operands]; exact ⟨p.1, by simpa using hp⟩))) (hfree c) hb
    refine ⟨.agg ⟨vs'⟩, ?_, ?_⟩
    · simp only [Instr.build, zeroValue, typeInfo, Sem.run_bind, run_program, Result.andThen_ok, hi, Sem.run_pure, hz, run_underlying hu, hm]
      have e : (parts.map fun p => (p.1, ρ p.2)).toList = parts.toList.map fun p => (p.1, ρ p.2) := by simp
      have e2 : (⟨z.cells.toList⟩ : Array Value) = z.cells := by simp
      rw [e2] at hf
      have hf' : Instr.fill (fun x => (⟨(T t).offs⟩ : Array (Nat × Nat))[x]?) z.cells (parts.map fun p => (p.1, ρ p.2)).toList = some ⟨vs'⟩ := by rw [e]; exact hf
      simp only [hf', Sem.run_pure]
    · simp only [RepV]
      exact ⟨vs', rfl, hR⟩
  | makeFunc fn first captured =>
    cases fn with
    | func f =>
      refine fin _ rfl ?_
      simp only [pureV] at hp ⊢
      subst hp
      refine ⟨.func (.func f) #[] (captured.map ρ), by simp [Instr.makeFunc], ?_⟩
      simp only [RepV]
      exact ⟨captured.toList.map ρ, by congr 1; apply Array.ext'; simp, RepL_map fun y hy => hg y (by simp [Op.operands] at hy ⊢; exact hy)⟩
    | _ => simp [pureV] at hp
  | nilCheck x =>
    have hx := hg x (by simp [Op.operands])
    simp only [pureV] at hp ⊢
    cases hgx : g x with
    | ptr id off =>
      rw [hgx] at hx hp
      simp only at hp ⊢
      have h0 := hx
      simp only [RepV] at hx
      obtain ⟨a, hv, _⟩ := hx
      exact ⟨_, by simp only [execOp, hv]; rfl, hv ▸ h0⟩
    | _ => rw [hgx] at hp; exact hp.elim
  | call cl =>
    obtain ⟨callee, args, argTypes⟩ := cl
    cases callee with
    | builtin b =>
      cases b <;> first | (simp [pureV] at hp; done) | skip
      · simp only [pureV] at hp ⊢
        obtain ⟨args⟩ := args
        obtain ⟨argTypes⟩ := argTypes
        match args, argTypes with
        | [x], [t] =>
          have hx := hg x (by simp [Op.operands, Call.operands])
          simp only at hp ⊢
          cases hgx : g x <;> rw [hgx] at hx hp <;> first | exact hp.elim | skip
          simp only [RepV] at hx ⊢
          refine ⟨_, ?_, rfl⟩
          simp only [execOp, resolve, invoke, builtin, Sem.run_bind, Sem.run_pure, Result.andThen_ok, List.map_toArray, List.map_cons, List.map_nil, hx]
          rw [run_cap_slice _ _ _ _ _ _ (by rw [elem_eq (hT t hp.1) hp.2]; exact (hT t hp.1).slice hp.2)]
          rfl
        | [], _ => simp at hp
        | [_], [] => simp at hp
        | [_], _ :: _ :: _ => simp at hp
        | _ :: _ :: _, _ => simp at hp
      · simp only [pureV] at hp ⊢
        obtain ⟨args⟩ := args
        obtain ⟨argTypes⟩ := argTypes
        match args, argTypes with
        | [x], [t] =>
          obtain ⟨y, hy, hr⟩ := lenV_sound (ty := ty) hT H (hg x (by simp [Op.operands, Call.operands])) hp
          exact ⟨y, by simp [execOp, resolve, invoke, builtin, hy], hr⟩
        | [], _ => simp at hp
        | [_], [] => simp at hp
        | [_], _ :: _ :: _ => simp at hp
        | _ :: _ :: _, _ => simp at hp
      · simp only [pureV] at hp ⊢
        obtain ⟨args⟩ := args
        match args with
        | [x, y] =>
          have hx := hg x (by simp [Op.operands, Call.operands])
          have hy := hg y (by simp [Op.operands, Call.operands])
          simp only at hp ⊢
          cases hgx : g x <;> rw [hgx] at hx hp <;> first | exact hp.elim | skip
          cases hgy : g y <;> rw [hgy] at hy hp <;> first | exact hp.elim | skip
          rename_i k a k' b
          simp only [RepV] at hx hy ⊢
          refine ⟨_, ?_, rfl⟩
          simp only [execOp, resolve, invoke, builtin, Sem.run_bind, Sem.run_pure, Result.andThen_ok, List.map_toArray, List.map_cons, List.map_nil, hx, hy, run_max_int2]
          congr 3
          by_cases hab : b > a
          · rw [if_pos hab]; omega
          · rw [if_neg hab]; omega
        | [] => simp at hp
        | [_] => simp at hp
        | _ :: _ :: _ :: _ => simp at hp
      · simp only [pureV] at hp ⊢
        obtain ⟨args⟩ := args
        match args with
        | [x, y] =>
          have hx := hg x (by simp [Op.operands, Call.operands])
          have hy := hg y (by simp [Op.operands, Call.operands])
          simp only at hp ⊢
          cases hgx : g x <;> rw [hgx] at hx hp <;> first | exact hp.elim | skip
          cases hgy : g y <;> rw [hgy] at hy hp <;> first | exact hp.elim | skip
          rename_i k a k' b
          simp only [RepV] at hx hy ⊢
          refine ⟨_, ?_, rfl⟩
          simp only [execOp, resolve, invoke, builtin, Sem.run_bind, Sem.run_pure, Result.andThen_ok, List.map_toArray, List.map_cons, List.map_nil, hx, hy, run_min_int2]
          congr 3
          by_cases hab : b < a
          · rw [if_pos hab]; omega
          · rw [if_neg hab]; omega
        | [] => simp at hp
        | [_] => simp at hp
        | _ :: _ :: _ :: _ => simp at hp
    | _ => simp [pureV] at hp
  | _ => simp [pureV] at hp

end
end Go.Ideal

/- The ideal state of a frame, what an operation does to it, and how it stands to the machine's. -/
set_option linter.unusedVariables false
set_option linter.unusedSimpArgs false
namespace Go.Ideal
open Go

structure ISt where
  tm : List (Nat × IV)
  hp : List (Nat × Option IBlk)

def lkT : List (Nat × IV) → Nat → IV
  | [], _ => .junk
  | (j, v) :: l, i => if j = i then v else lkT l i
def lkH : List (Nat × Option IBlk) → Nat → Option IBlk
  | [], _ => none
  | (j, b) :: l, i => if j = i then b else lkH l i

/-- What does not change while a frame runs. A: blocks of others that the frame may never reach by value; B0: blocks that were handed to it to write. -/
structure Fr where
  A : Nat → Prop
  B0 : Nat → Prop
  w0 : World
  N : Nat
  hAB : ∀ b, A b → ¬ B0 b
  hA : ∀ b, A b → b < w0.heap.size
  hB : ∀ b, B0 b → b < w0.heap.size
  μ0 : Nat → Nat
  κ0 : Nat → Nat
  hN : N ≤ 1000

def avOf (F : Fr) (μ : Nat → Nat) (hp : List (Nat × Option IBlk)) : Nat → Prop := fun b => F.A b ∨ ∃ id, lkH hp id ≠ none ∧ μ id = b
def ctx (F : Fr) (μ κ : Nat → Nat) (hp : List (Nat × Option IBlk)) (w : World) : Ctx := ⟨μ, κ, fun id => (lkH hp id).map IBlk.shape, avOf F μ hp, w⟩

structure RepS (F : Fr) (μ κ : Nat → Nat) (s : ISt) (a : Act) (w : World) : Prop where
  defers : a.defers = []
  size : a.tmps.size = F.N
  chg : Chg F.B0 F.w0 w
  inj : ∀ i j, lkH s.hp i ≠ none → lkH s.hp j ≠ none → μ i = μ j → i = j
  own : ∀ id blk, lkH s.hp id = some blk → RepB (ctx F μ κ s.hp w) id blk ∧ ¬ F.A (μ id) ∧ (F.B0 (μ id) ∨ F.w0.heap.size ≤ μ id)
  tmps : ∀ i, RepV (ctx F μ κ s.hp w) (lkT s.tm i) (a.tmps.getD i undef)
  pin : ∀ id, 1000 ≤ id → id < 2000 → μ id = F.μ0 id ∧ κ id = F.κ0 id

section
variable {F : Fr} {μ κ : Nat → Nat} {s : ISt} {a : Act} {w : World}

theorem RepS.hpOK (R : RepS F μ κ s a w) : Hp (ctx F μ κ s.hp w) (lkH s.hp) :=
  ⟨fun _ => rfl, fun id b h => (R.own id b h).1, fun id h => .inr ⟨id, h, rfl⟩⟩

theorem RepS.put (R : RepS F μ κ s a w) {d : Nat} {x : IV} {v : Value} (hv : RepV (ctx F μ κ s.hp w) x v) (hd : d < F.N) : RepS F μ κ ⟨(d, x) :: s.tm, s.hp⟩ (a.put (some d) v) w := by
  refine ⟨R.defers, by simpa [Act.put] using R.size, R.chg, R.inj, R.own, fun i => ?_, R.pin⟩
  simp only [lkT]
  by_cases h : d = i
  · subst h
    have hs : d < a.tmps.size := by rw [R.size]; exact hd
    have e : (a.put (some d) v).tmps.getD d undef = v := by simp [Act.put, Array.getD, hs]
    simp only [if_true, e]
    exact hv
  · simp only [h, if_false]
    have : (a.put (some d) v).tmps.getD i undef = a.tmps.getD i undef := by
      simp only [Act.put, Array.getD_eq_getD_getElem?, Array.getElem?_setIfInBounds]
      rw [if_neg h]
    rw [this]
    exact R.tmps i

theorem RepS.putNone (R : RepS F μ κ s a w) (v : Value) : RepS F μ κ s (a.put none v) w := R

/-- The memory moves on: the slots stay as they are. -/
theorem RepS.move (R : RepS F μ κ s a w) {μ' κ' : Nat → Nat} {hp' : List (Nat × Option IBlk)} {w' : World} (ok : Nat → Prop)
    (hc : Chg F.B0 F.w0 w')
    (hinj : ∀ i j, lkH hp' i ≠ none → lkH hp' j ≠ none → μ' i = μ' j → i = j)
    (hown : ∀ id blk, lkH hp' id = some blk → RepB (ctx F μ' κ' hp' w') id blk ∧ ¬ F.A (μ' id) ∧ (F.B0 (μ' id) ∨ F.w0.heap.size ≤ μ' id))
    (hle : (ctx F μ κ s.hp w).Le (ctx F μ' κ' hp' w') ok) (hok : ∀ i id, (lkT s.tm i).ment id = true → ok id) (hpin : ∀ id, 1000 ≤ id → id < 2000 → μ' id = μ id ∧ κ' id = κ id) :
    RepS F μ' κ' ⟨s.tm, hp'⟩ a w' :=
  ⟨R.defers, R.size, hc, hinj, hown, fun i => RepV.mono hle _ _ (fun id h => hok i id h) (R.tmps i),
    fun id h1 h2 => ⟨(hpin id h1 h2).1.trans (R.pin id h1 h2).1, (hpin id h1 h2).2.trans (R.pin id h1 h2).2⟩⟩

end

/-! ### flattened rows -/

def RepX (c : Ctx) (k : Nat) : List IV → List Value → Prop
  | [], xs => xs = []
  | e :: es, xs => ∃ x r, xs = x.cells.toList ++ r ∧ RepV c e x ∧ EltOk k x ∧ RepX c k es r

section
variable {c : Ctx} {k : Nat}

theorem RepX.length : ∀ {es : List IV} {xs : List Value}, RepX c k es xs → xs.length = es.length * k
  | [], xs, h => by simp [RepX] at h; simp [h]
  | e :: es, xs, h => by
    simp only [RepX] at h
    obtain ⟨x, r, rfl, hx, hk, hr⟩ := h
    have := eltOk_cells hk
    simp [RepX.length hr, Nat.add_mul, hk.1]
    omega

theorem RepX.append : ∀ {es : List IV} {xs : List Value} {es' : List IV} {xs' : List Value}, RepX c k es xs → RepX c k es' xs' → RepX c k (es ++ es') (xs ++ xs')
  | [], xs, es', xs', h, h' => by simp [RepX] at h; simpa [h] using h'
  | e :: es, xs, es', xs', h, h' => by
    simp only [RepX] at h
    obtain ⟨x, r, rfl, hx, hk, hr⟩ := h
    simp only [List.cons_append, RepX]
    exact ⟨x, r ++ xs', by simp, hx, hk, RepX.append hr h'⟩

theorem RepX.one {es : List IV} {xs : List Value} : ∀ {es : List IV} {xs : List Value}, RepX c k es xs → ∀ u ∈ xs, u.oneCell' = true
  | [], xs, h, u, hu => by simp [RepX] at h; simp [h] at hu
  | e :: es, xs, h, u, hu => by
    simp only [RepX] at h
    obtain ⟨x, r, rfl, hx, hk, hr⟩ := h
    rcases List.mem_append.1 hu with hu | hu
    · exact hk.2.1 u hu
    · exact RepX.one (es := es) (xs := r) hr u hu

theorem RepR.toX {b : Nat} : ∀ {es : List IV} {o : Nat}, RepR c k b o es → ∃ xs, RepX c k es xs ∧ ∀ j u, xs[j]? = some u → c.w.cell? ⟨b, o + j, none⟩ = some u
  | [], o, h => ⟨[], by simp [RepX], by simp⟩
  | e :: es, o, h => by
    simp only [RepR] at h
    obtain ⟨⟨x, hx, hk, hc⟩, hr⟩ := h
    obtain ⟨r, hX, hcells⟩ := RepR.toX hr
    refine ⟨x.cells.toList ++ r, ⟨x, r, rfl, hx, hk, hX⟩, fun j u hu => ?_⟩
    have hl := eltOk_cells hk
    by_cases hj : j < k
    · rw [List.getElem?_append_left (by omega)] at hu
      rw [hc j hj]
      simpa using hu
    · rw [List.getElem?_append_right (by omega), hl] at hu
      have := hcells (j - k) u hu
      rwa [show o + k + (j - k) = o + j by omega] at this

theorem RepX.toR {b : Nat} : ∀ {es : List IV} {xs : List Value} {o : Nat}, RepX c k es xs → (∀ j u, xs[j]? = some u → c.w.cell? ⟨b, o + j, none⟩ = some u) → RepR c k b o es
  | [], xs, o, h, hc => by simp [RepR]
  | e :: es, xs, o, h, hc => by
    simp only [RepX] at h
    obtain ⟨x, r, rfl, hx, hk, hr⟩ := h
    have hl := eltOk_cells hk
    simp only [RepR]
    refine ⟨⟨x, hx, hk, fun j hj => ?_⟩, RepX.toR hr (fun j u hu => ?_)⟩
    · have hj' : j < x.cells.toList.length := by omega
      have := hc j (x.cells.toList[j]) (by rw [List.getElem?_append_left hj', List.getElem?_eq_getElem hj'])
      rw [this]
      have hs : j < x.cells.size := by simpa using hj'
      rw [Array.getElem?_eq_getElem hs]
      simp
    · have := hc (k + j) u (by rw [List.getElem?_append_right (by omega), hl]; rwa [show k + j - k = j by omega])
      rwa [show o + (k + j) = o + k + j by omega] at this

theorem RepX.mono {c' : Ctx} {ok : Nat → Prop} (L : c.Le c' ok) : ∀ {es : List IV} {xs : List Value}, (∀ id, IV.mentL id es = true → ok id) → RepX c k es xs → RepX c' k es xs
  | [], xs, m, h => by simpa [RepX] using h
  | e :: es, xs, m, h => by
    simp only [RepX] at h ⊢
    obtain ⟨x, r, hx, hv, hk, hr⟩ := h
    exact ⟨x, r, hx, RepV.mono L e x (fun id hi => m id (by simp [IV.mentL, hi])) hv, hk, RepX.mono L (fun id hi => m id (by simp [IV.mentL, hi])) hr⟩

theorem RepX.take : ∀ {es : List IV} {xs : List Value}, RepX c k es xs → ∀ n, n ≤ es.length → RepX c k (es.take n) (xs.take (n * k))
  | es, xs, h, 0, _ => by simp [RepX]
  | [], xs, h, n + 1, hn => by simp at hn
  | e :: es, xs, h, n + 1, hn => by
    simp only [RepX] at h
    obtain ⟨x, r, rfl, hx, hk, hr⟩ := h
    have hl := eltOk_cells hk
    simp only [List.take_succ_cons, RepX]
    refine ⟨x, r.take (n * k), ?_, hx, hk, RepX.take hr n (by simpa using hn)⟩
    rw [List.take_append, List.take_of_length_le (by rw [hl, Nat.add_mul]; omega), hl, show (n + 1) * k - k = n * k by rw [Nat.add_mul]; omega]

end

/-- An element that may be laid into a row of elements of k cells. -/
def oneI : IV → Bool
  | .agg _ | .tup _ | .junk | .opt _ _ => false
  | _ => true
def eltI (k : Nat) : IV → Prop
  | .agg l => l.length = k ∧ 2 ≤ k ∧ l.all oneI = true
  | .num _ _ | .bool _ | .str _ | .sl _ _ | .nils | .lsl _ _ _ => k = 1
  | _ => False
def noId' : IV → Bool
  | .num _ _ | .bool _ | .str _ | .sl _ _ | .nils | .lsl _ _ _ => true
  | .agg l => l.all fun x => match x with | .num _ _ | .bool _ | .str _ | .sl _ _ | .nils => true | _ => false
  | _ => false

theorem oneI_one {c : Ctx} {x : IV} {v : Value} (hx : RepV c x v) (h : oneI x = true) : v.oneCell' = true := by
  cases x <;> simp [oneI] at h <;> simp only [RepV] at hx
  case num => subst hx; rfl
  case bool => subst hx; rfl
  case str => subst hx; rfl
  case sl => obtain ⟨a, n, cp, rfl, _⟩ := hx; rfl
  case nils => subst hx; rfl
  case nilp => subst hx; rfl
  case nilI => subst hx; rfl
  case ptr => obtain ⟨a, rfl, _⟩ := hx; rfl
  case aptr => obtain ⟨a, rfl, _⟩ := hx; rfl
  case eptr => obtain ⟨b, o, y, rfl, _⟩ := hx; rfl
  case ref => obtain ⟨a, cp, rfl, _⟩ := hx; rfl
  case clo => obtain ⟨cs, rfl, _⟩ := hx; rfl
  case ifc => obtain ⟨t, y, rfl⟩ := hx; rfl
  case anyB => obtain ⟨b, rfl⟩ := hx; rfl
  case lsl => subst hx; rfl

theorem all_one {c : Ctx} : ∀ {l : List IV} {vs : List Value}, RepL c l vs → l.all oneI = true → ∀ u ∈ vs, u.oneCell' = true
  | [], vs, h, _, u, hu => by simp [RepL] at h; simp [h] at hu
  | x :: l, vs, h, ha, u, hu => by
    simp only [RepL] at h
    obtain ⟨v, r, rfl, hx, hl⟩ := h
    simp only [List.all_cons, Bool.and_eq_true] at ha
    rcases List.mem_cons.1 hu with rfl | hu
    · exact oneI_one hx ha.1
    · exact all_one hl ha.2 u hu

theorem eltI_ok {c : Ctx} {k : Nat} {x : IV} {v : Value} (hx : RepV c x v) (h : eltI k x) : EltOk k v := by
  have one : ∀ u : Value, v = u → u.cells = #[u] → isAggV u = false → u.oneCell' = true → k = 1 → EltOk k v := by
    intro u hu hc ha h1 hk
    subst hu hk
    exact ⟨by rw [hc]; rfl, by rw [hc]; simpa using h1, by simp [ha], Nat.le_refl _⟩
  cases x <;> simp only [eltI] at h <;> simp only [RepV] at hx
  case num => exact one _ hx rfl rfl rfl h
  case bool => exact one _ hx rfl rfl rfl h
  case str => exact one _ hx rfl rfl rfl h
  case nils => exact one _ hx rfl rfl rfl h
  case lsl => exact one _ hx rfl rfl rfl h
  case sl => obtain ⟨a, n, cp, rfl, _⟩ := hx; exact one _ rfl rfl rfl rfl h
  case agg l =>
    obtain ⟨vs, rfl, hl⟩ := hx
    obtain ⟨h1, h2, h3⟩ := h
    exact ⟨by simp [Value.cells, hl.length, h1], by simpa [Value.cells] using all_one hl h3, by simp [isAggV, h2], by omega⟩

end Go.Ideal

/- What each operation does to the ideal state, and that the machine does the like. -/
set_option linter.unusedVariables false
set_option linter.unusedSimpArgs false
namespace Go.Ideal
open Go

def mentTm (d : Nat) : List (Nat × IV) → Bool
  | [] => false
  | (_, v) :: l => v.ment d || mentTm d l
def mentHp (d : Nat) : List (Nat × Option IBlk) → Bool
  | [] => false
  | (_, some (.box _ cells)) :: l => IV.mentL d cells || mentHp d l
  | _ :: l => mentHp d l

structure Eff where
  ob : Prop
  tv : List (Nat × IV)
  hv : List (Nat × Option IBlk)

def ISt.app (s : ISt) (e : Eff) : ISt := ⟨e.tv ++ s.tm, e.hv ++ s.hp⟩

def opI (tm : List (Nat × IV)) : Operand → IV
  | .tmp t => lkT tm t
  | .const v => ofC v
  | .func f => .clo f []
  | .global _ => .junk
def gO (tm : List (Nat × IV)) (x : Operand) : IV := (strip (opI tm x)).1
def gB (tm : List (Nat × IV)) (x : Operand) : Bool := (strip (opI tm x)).2
def allB (tm : List (Nat × IV)) : List Operand → Prop
  | [] => True
  | x :: l => gB tm x = true ∧ allB tm l

def gval (tm : List (Nat × IV)) (ops : List Oper) (o : Oper) : Bool × Prop :=
  match o.guard with
  | none => (true, True)
  | some (j, want) =>
    match (ops[j]?).bind (·.dst) with
    | some d =>
      match lkT tm d with
      | .bool b => (b == want, True)
      | .opt p (.bool b) => (p && (b == want), True)
      | .opt p _ => (false, p = false)
      | _ => (true, False)
    | none => (true, False)

def wrapG (o : Oper) (G : Bool) (v : IV) : IV :=
  match o.guard with
  | none => v
  | some _ => .opt G v

def dstOK (N : Nat) (o : Oper) : Prop :=
  match o.dst with
  | some d => d < N
  | none => True

def setD (o : Oper) (v : IV) : List (Nat × IV) :=
  match o.dst with
  | some d => [(d, v)]
  | none => []

def effPure (T : Nat → TD) (N : Nat) (ops : List Oper) (o : Oper) (s : ISt) : Eff :=
  { ob := (gval s.tm ops o).2 ∧ dstOK N o ∧ ((gval s.tm ops o).1 = true → allB s.tm o.op.operands.toList ∧ (pureV T (gO s.tm) (lkH s.hp) o.op).2),
    tv := setD o (wrapG o (gval s.tm ops o).1 (pureV T (gO s.tm) (lkH s.hp) o.op).1), hv := [] }

/-- One operation, at a state that it fits: whatever the machine's state, it goes on to one that fits the new state. -/
def StepOK (P : Program) (F : Fr) (ops : List Oper) (o : Oper) (s : ISt) (e : Eff) : Prop :=
  ∀ μ κ a w, RepS F μ κ s a w → ∀ (Q : Exit → Act → World → Prop) (next : Act → World → Prop),
    (∀ μ' κ' a' w', RepS F μ' κ' (s.app e) a' w' → next a' w') →
    if Region.wanted o (yielded ⟨ops⟩ a.tmps) then o.wp P a w next Q ∨ (o.asks P a w ∧ LetsOut Q) else next (a.put o.dst undef) w

section
variable {P : Program} {T : Nat → TD} {F : Fr} {μ κ : Nat → Nat} {s : ISt} {a : Act} {w : World} {ops : List Oper} {o : Oper}

theorem getD_of_tmps {a : Act} {d : Nat} {v : Value} (h : a.tmps.getD d undef = v) (hv : v ≠ undef) : a.tmps[d]? = some v := by
  rw [Array.getD_eq_getD_getElem?] at h
  cases hd : a.tmps[d]? with
  | none => rw [hd] at h; exact absurd h.symm hv
  | some u => rw [hd] at h; simpa using h

theorem gval_wanted (R : RepS F μ κ s a w) (hg : (gval s.tm ops o).2) : Region.wanted o (yielded ⟨ops⟩ a.tmps) = (gval s.tm ops o).1 := by
  unfold gval at *
  unfold Region.wanted
  cases hgd : o.guard with
  | none => simp [hgd]
  | some p =>
    obtain ⟨j, want⟩ := p
    simp only [hgd] at hg ⊢
    cases hd : (ops[j]?).bind (·.dst) with
    | none => simp [hd] at hg
    | some d =>
      simp only [hd] at hg ⊢
      have hr := R.tmps d
      have hy : yielded ⟨ops⟩ a.tmps j = (match a.tmps[d]? with | some (.bool b) => some b | _ => none) := by
        unfold yielded
        have : ((⟨ops⟩ : Array Oper)[j]?).bind (·.dst) = some d := by simpa using hd
        rw [this]; rfl
      rw [hy]
      cases hl : lkT s.tm d with
      | bool b =>
        rw [hl] at hr
        simp only [RepV] at hr
        rw [getD_of_tmps hr (by simp [undef])]
        simp
      | opt p x =>
        rw [hl] at hr hg
        cases x with
        | bool b =>
          simp only [RepV] at hr
          cases p with
          | true =>
            have := hr.1 rfl
            rw [getD_of_tmps this (by simp [undef])]
            simp
          | false =>
            have := hr.2 rfl
            rw [Array.getD_eq_getD_getElem?] at this
            cases hd2 : a.tmps[d]? with
            | none => simp
            | some u => rw [hd2] at this; simp at this; subst this; simp [undef]
        | _ =>
          simp only at hg
          subst hg
          simp only [RepV] at hr
          have : a.tmps.getD d undef = undef := by first | exact hr.2 rfl | exact hr.2 trivial
          rw [Array.getD_eq_getD_getElem?] at this
          cases hd2 : a.tmps[d]? with
          | none => simp
          | some u => rw [hd2] at this; simp at this; subst this; simp [undef]
      | _ => rw [hl] at hg; simp at hg

theorem opI_rep (R : RepS F μ κ s a w) (x : Operand) : RepV (ctx F μ κ s.hp w) (opI s.tm x) (a.eval x) := by
  cases x with
  | tmp t => exact R.tmps t
  | const v =>
    simp only [opI, Act.eval]
    unfold ofC
    split <;> simp [RepV]
  | func f => simp [opI, Act.eval, RepV, RepL]
  | global g => simp [opI, RepV]

theorem gO_rep (R : RepS F μ κ s a w) {x : Operand} (h : gB s.tm x = true) : RepV (ctx F μ κ s.hp w) (gO s.tm x) (a.eval x) := by
  have := opI_rep R x
  unfold gO gB at *
  cases hx : opI s.tm x with
  | opt b v =>
    rw [hx] at this h
    simp only [strip] at h ⊢
    simp only [RepV] at this
    exact this.1 h
  | _ => rw [hx] at this; exact this

theorem allB_mem : ∀ {l : List Operand}, allB s.tm l → ∀ x ∈ l, gB s.tm x = true
  | [], _, x, hx => by simp at hx
  | y :: l, h, x, hx => by
    simp only [allB] at h
    rcases List.mem_cons.1 hx with rfl | hx
    · exact h.1
    · exact allB_mem h.2 x hx

theorem app_set (R : RepS F μ κ s a w) {x : IV} {v : Value} (hv : RepV (ctx F μ κ s.hp w) x v) (hd : dstOK F.N o) (ob : Prop) :
    RepS F μ κ (s.app ⟨ob, setD o x, []⟩) (a.put o.dst v) w := by
  unfold ISt.app setD dstOK at *
  cases h : o.dst with
  | none => simpa [h] using R.putNone v
  | some d => rw [h] at hd; simpa [h] using R.put hv hd

theorem effPure_sound (hT : TOK P T) (ops : List Oper) (o : Oper) (s : ISt) (hob : (effPure T F.N ops o s).ob) : StepOK P F ops o s (effPure T F.N ops o s) := by
  intro μ κ a w R Q next hn
  obtain ⟨hg, hd, hp⟩ := hob
  rw [gval_wanted R hg]
  cases hG : (gval s.tm ops o).1 with
  | true =>
    obtain ⟨hb, hpv⟩ := hp hG
    obtain ⟨y, hy, hr⟩ := pureV_sound hT R.hpOK (ρ := a.eval) o (fun x hx => gO_rep R (allB_mem hb x hx)) hpv
    simp only [if_true]
    refine .inl ?_
    unfold Oper.wp
    rw [show (ctx F μ κ s.hp w).w = w from rfl] at hy
    rw [hy, Oper.upon_value]
    refine hn μ κ _ _ (app_set R ?_ hd _)
    rw [hG]
    unfold wrapG
    cases o.guard with
    | none => exact hr
    | some p => simp only [RepV]; exact ⟨fun _ => hr, fun h => (by cases h)⟩
  | false =>
    simp only [Bool.false_eq_true, if_false]
    refine hn μ κ _ _ (app_set R ?_ hd _)
    rw [hG]
    unfold wrapG
    cases hgd : o.guard with
    | none => simp [gval, hgd] at hG
    | some p => simp [RepV]

/-! ### pick -/

def pickV (c a b : IV) : IV × Prop :=
  match c, strip a, strip b with
  | .bool cb, (.bool x, p), (.bool y, q) => (.bool (bif cb then x else y), (cb = true → p = true) ∧ (cb = false → q = true))
  | .bool cb, (.bool x, p), _ => (.bool x, cb = true ∧ p = true)
  | .bool cb, _, (.bool y, q) => (.bool y, cb = false ∧ q = true)
  | _, _, _ => (.junk, False)

def effPick (N : Nat) (ops : List Oper) (o : Oper) (c x y : Operand) (s : ISt) : Eff :=
  { ob := (gval s.tm ops o).2 ∧ dstOK N o ∧ ((gval s.tm ops o).1 = true → gB s.tm c = true ∧ (pickV (gO s.tm c) (opI s.tm x) (opI s.tm y)).2),
    tv := setD o (wrapG o (gval s.tm ops o).1 (pickV (gO s.tm c) (opI s.tm x) (opI s.tm y)).1), hv := [] }

theorem strip_bool {c : Ctx} {x : IV} {v : Value} {b p : Bool} (hx : RepV c x v) (h : strip x = (.bool b, p)) (hp : p = true) : v = .bool b := by
  cases x with
  | opt q y =>
    simp only [strip, Prod.mk.injEq] at h
    obtain ⟨rfl, rfl⟩ := h
    simp only [RepV] at hx
    exact hx.1 hp
  | bool q =>
    simp only [strip, Prod.mk.injEq, IV.bool.injEq] at h
    obtain ⟨rfl, _⟩ := h
    simpa [RepV] using hx
  | _ => simp [strip] at h

theorem effPick_sound {c x y : Operand} (ops : List Oper) (o : Oper) (ho : o.op = .pick c x y) (s : ISt) (hob : (effPick F.N ops o c x y s).ob) : StepOK P F ops o s (effPick F.N ops o c x y s) := by
  intro μ κ a w R Q next hn
  obtain ⟨hg, hd, hp⟩ := hob
  rw [gval_wanted R hg]
  cases hG : (gval s.tm ops o).1 with
  | true =>
    obtain ⟨hb, hpv⟩ := hp hG
    simp only [if_true]
    refine .inl ?_
    have hc := gO_rep R hb
    have hx := opI_rep R x
    have hy := opI_rep R y
    have key : ∃ v, (execOp a.eval o).run P w = .ok (.value v) w ∧ RepV (ctx F μ κ s.hp w) (pickV (gO s.tm c) (opI s.tm x) (opI s.tm y)).1 v := by
      unfold pickV at hpv ⊢
      split at hpv
      · rename_i cb b1 p b2 q e1 e2 e3
        rw [e1] at hc
        simp only [RepV] at hc
        refine ⟨if cb then a.eval x else a.eval y, by simp [execOp, ho, hc, asBool], ?_⟩
        cases cb with
        | true => have := strip_bool hx e2 (hpv.1 rfl); simp [this, RepV]
        | false => have := strip_bool hy e3 (hpv.2 rfl); simp [this, RepV]
      · rename_i e1 e2 _
        rw [e1] at hc
        simp only [RepV] at hc
        obtain ⟨rfl, hpp⟩ := hpv
        have := strip_bool hx e2 hpp
        exact ⟨a.eval x, by simp [execOp, ho, hc, asBool], by simp [this, RepV]⟩
      · rename_i e1 e3 _
        rw [e1] at hc
        simp only [RepV] at hc
        obtain ⟨rfl, hpp⟩ := hpv
        have := strip_bool hy e3 hpp
        exact ⟨a.eval y, by simp [execOp, ho, hc, asBool], by simp [this, RepV]⟩
      · exact hpv.elim
    obtain ⟨v, hv, hr⟩ := key
    unfold Oper.wp
    rw [hv, Oper.upon_value]
    refine hn μ κ _ _ (app_set R ?_ hd _)
    rw [hG]
    unfold wrapG
    cases o.guard with
    | none => exact hr
    | some p => simp only [RepV]; exact ⟨fun _ => hr, fun h => (by cases h)⟩
  | false =>
    simp only [Bool.false_eq_true, if_false]
    refine hn μ κ _ _ (app_set R ?_ hd _)
    rw [hG]
    unfold wrapG
    cases hgd : o.guard with
    | none => simp [gval, hgd] at hG
    | some p => simp [RepV]

end
end Go.Ideal

/- The operations that make memory or write it. -/
set_option linter.unusedVariables false
set_option linter.unusedSimpArgs false
namespace Go.Ideal
open Go

def skipE (o : Oper) (s : ISt) (ops : List Oper) (N : Nat) : Eff := { ob := (gval s.tm ops o).2 ∧ dstOK N o, tv := setD o (.opt false .junk), hv := [] }

/-- An operation that lays a new block under the name of its slot. -/
def effNew (N : Nat) (ops : List Oper) (o : Oper) (s : ISt) (blk : IBlk) (v : Nat → IV) (ob : Prop) : Eff :=
  match o.dst with
  | some d => bif (gval s.tm ops o).1 then { ob := (gval s.tm ops o).2 ∧ d < N ∧ mentTm d s.tm = false ∧ mentHp d s.hp = false ∧ ob, tv := [(d, v d)], hv := [(d, some blk)] } else skipE o s ops N
  | none => { ob := False, tv := [], hv := [] }

def effAlloc (T : Nat → TD) (N : Nat) (ops : List Oper) (o : Oper) (t : TypeId) (s : ISt) : Eff :=
  effNew N ops o s (.box t (T t).zero) (fun d => .ptr d 0) ((T t).on = true)

def effBox (T : Nat → TD) (N : Nat) (ops : List Oper) (o : Oper) (t : TypeId) (x : Operand) (s : ISt) : Eff :=
  effNew N ops o s (.box t (gO s.tm x).cells) (fun d => .ptr d 0) (gB s.tm x = true ∧ solid (gO s.tm x) = true ∧ (gO s.tm x).cells.all oneI = true)

/-- The parts of a slice literal, in order. -/
def partsL (tm : List (Nat × IV)) : Nat → List (Nat × Operand) → List IV × Prop
  | _, [] => ([], True)
  | i, (j, x) :: r => (gO tm x :: (partsL tm (i + 1) r).1, j = i ∧ gB tm x = true ∧ (partsL tm (i + 1) r).2)

def eltsI (k : Nat) : List IV → Prop
  | [] => True
  | x :: l => eltI k x ∧ noId' x = true ∧ eltsI k l

def effBuildSlice (T : Nat → TD) (N : Nat) (ops : List Oper) (o : Oper) (t : TypeId) (n : Nat) (parts : List (Nat × Operand)) (s : ISt) : Eff :=
  effNew N ops o s (.arr (T (T t).elem).size (T t).elem (partsL s.tm 0 parts).1) (fun d => .ref d 0 n true)
    ((T t).on = true ∧ (T t).elem ≠ 0 ∧ (T (T t).elem).on = true ∧ n = parts.length ∧ n * (T (T t).elem).size ≤ 16777216 ∧ (partsL s.tm 0 parts).2 ∧ eltsI (T (T t).elem).size (partsL s.tm 0 parts).1)

def zeroElt (d : TD) : IV := if 2 ≤ d.size then .agg d.zero else d.zero.headD .junk

def effMake (T : Nat → TD) (N : Nat) (ops : List Oper) (o : Oper) (t : TypeId) (l c : Operand) (s : ISt) : Eff :=
  match gO s.tm l, gO s.tm c with
  | .num _ L, .num _ C =>
    effNew N ops o s (.arr (T (T t).elem).size (T t).elem (List.replicate L.toNat (zeroElt (T (T t).elem)))) (fun d => .ref d 0 L.toNat true)
      ((T t).on = true ∧ (T t).elem ≠ 0 ∧ (T (T t).elem).on = true ∧ gB s.tm l = true ∧ gB s.tm c = true ∧ 0 ≤ L ∧ L ≤ C ∧ C * (T (T t).elem).bytes ≤ 140737488355328 ∧ C ≤ 140737488355328 ∧ noId' (zeroElt (T (T t).elem)) = true)
  | _, _ => { ob := False, tv := [], hv := [] }

section
variable {P : Program} {T : Nat → TD} {F : Fr} {μ κ : Nat → Nat} {s : ISt} {a : Act} {w : World} {ops : List Oper} {o : Oper}

theorem mentTm_lk {d : Nat} : ∀ {tm : List (Nat × IV)}, mentTm d tm = false → ∀ i, (lkT tm i).ment d = false
  | [], _, i => by simp [lkT, IV.ment]
  | (j, v) :: tm, h, i => by
    simp only [mentTm, Bool.or_eq_false_iff] at h
    simp only [lkT]
    split
    · exact h.1
    · exact mentTm_lk h.2 i

theorem mentHp_lk {d : Nat} : ∀ {hp : List (Nat × Option IBlk)}, mentHp d hp = false → ∀ i ty cells, lkH hp i = some (.box ty cells) → IV.mentL d cells = false
  | [], _, i, ty, cells, h => by simp [lkH] at h
  | (j, b) :: hp, h, i, ty, cells, hl => by
    simp only [lkH] at hl
    split at hl
    · subst hl
      simp only [mentHp, Bool.or_eq_false_iff] at h
      exact h.1
    · refine mentHp_lk ?_ i ty cells hl
      cases b with
      | none => simpa [mentHp] using h
      | some blk =>
        cases blk with
        | box ty cells => simp only [mentHp, Bool.or_eq_false_iff] at h; exact h.2
        | arr k ty es => simpa [mentHp] using h

theorem skipE_sound (R : RepS F μ κ s a w) (hob : (skipE o s ops F.N).ob) (hG : (gval s.tm ops o).1 = false) (Q : Exit → Act → World → Prop) (next : Act → World → Prop)
    (hn : ∀ μ' κ' a' w', RepS F μ' κ' (s.app (skipE o s ops F.N)) a' w' → next a' w') :
    if Region.wanted o (yielded ⟨ops⟩ a.tmps) then o.wp P a w next Q ∨ (o.asks P a w ∧ LetsOut Q) else next (a.put o.dst undef) w := by
  rw [gval_wanted R hob.1, hG]
  simp only [Bool.false_eq_true, if_false]
  exact hn μ κ _ _ (app_set R (by simp [RepV]) hob.2 _)

/-- The operand of a slot or a constant names only ids that the slots name. -/
theorem gO_ment {d : Nat} (h : mentTm d s.tm = false) (x : Operand) : (gO s.tm x).ment d = false := by
  unfold gO
  have : (opI s.tm x).ment d = false := by
    cases x with
    | tmp t => exact mentTm_lk h t
    | const v => simp only [opI]; unfold ofC; split <;> simp [IV.ment]
    | func f => simp [opI, IV.ment, IV.mentL]
    | global g => simp [opI, IV.ment]
  cases hx : opI s.tm x with
  | opt b v => rw [hx] at this; simpa [strip, IV.ment] using this
  | _ => rw [hx] at this; simpa [strip] using this

theorem heap_alloc_at (w : World) (o : Obj) : (w.alloc o).heap[w.heap.size]? = some o := heap_alloc_new w o

/-- What held of the blocks before holds of them after a step that leaves them and their ids alone. -/
theorem RepB.mono {c c' : Ctx} {ok : Nat → Prop} (L : c.Le c' ok) {id : Nat} {blk : IBlk} (hid : c'.μ id = c.μ id) (hk : c'.κ id = c.κ id)
    (hheap : c'.w.heap[c.μ id]? = c.w.heap[c.μ id]?) (hcell : ∀ o, c'.w.cell? ⟨c.μ id, o, none⟩ = c.w.cell? ⟨c.μ id, o, none⟩)
    (hm : ∀ ty cells, blk = .box ty cells → ∀ i, IV.mentL i cells = true → ok i) (h : RepB c id blk) : RepB c' id blk := by
  cases blk with
  | box ty cells =>
    obtain ⟨cs, h1, h2, h3⟩ := h
    exact ⟨cs, by rw [hid, hheap]; exact h1, RepL.mono L cells cs (fun i hi => hm ty cells rfl i hi) h2, h3⟩
  | arr k ty es =>
    obtain ⟨cur, h1, h2, h3, h4, h5, h6, h7⟩ := h
    refine ⟨cur, by rw [hid, hheap]; exact h1, by rw [hk]; exact h2, by rw [hk]; exact h3, h4, by rw [hk]; exact h5, h6, ?_⟩
    obtain ⟨xs, hX, hc⟩ := h7.toX
    rw [hid]
    exact (hX.mono L (fun i hi => by rw [h6 i] at hi; cases hi)).toR (fun j u hu => by rw [hcell]; exact hc j u hu)

/-- A new block, named d. -/
theorem newBlock (R : RepS F μ κ s a w) {d : Nat} (hd : d < F.N) (hm1 : mentTm d s.tm = false) (hm2 : mentHp d s.hp = false) {o : Obj} {w1 : World} (hw1 : Chg (fun _ => False) w w1) (hw1s : w1.heap.size = w.heap.size) (cap : Nat) (blk : IBlk)
    (hblk : ∀ c : Ctx, (ctx F μ κ s.hp w).Le c (fun i => i ≠ d) → c.μ d = w.heap.size → c.κ d = cap → c.w = w1.alloc o → RepB c d blk)
    (v : IV) (x : Value) (hv : ∀ c : Ctx, (ctx F μ κ s.hp w).Le c (fun i => i ≠ d) → c.μ d = w.heap.size → c.κ d = cap → c.sh d = some blk.shape → RepV c v x) :
    ∃ μ' κ', RepS F μ' κ' ⟨(d, v) :: s.tm, (d, some blk) :: s.hp⟩ (a.put (some d) x) (w1.alloc o) := by
  let μ' : Nat → Nat := fun i => if i = d then w.heap.size else μ i
  let κ' : Nat → Nat := fun i => if i = d then cap else κ i
  have hsize : (w1.alloc o).heap.size = w.heap.size + 1 := by simp [hw1s]
  have hold : ∀ b, b < w.heap.size → (w1.alloc o).heap[b]? = w.heap[b]? := fun b hb =>
    (RowKit.Below.heap_alloc w1 o b (by omega)).trans (hw1.block b hb (fun h => h))
  have hμlt : ∀ i, lkH s.hp i ≠ none → μ i < w.heap.size := by
    intro i hi
    cases hb : lkH s.hp i with
    | none => exact absurd hb hi
    | some b =>
      obtain ⟨hB, _⟩ := R.own i b hb
      cases b with
      | box ty cells => obtain ⟨cs, h1, _⟩ := hB; exact (Array.getElem?_eq_some_iff.1 h1).1
      | arr k ty es => obtain ⟨cur, h1, _⟩ := hB; exact (Array.getElem?_eq_some_iff.1 h1).1
  have hlk : ∀ i, lkH ((d, some blk) :: s.hp) i = if d = i then some blk else lkH s.hp i := fun i => rfl
  have hle : (ctx F μ κ s.hp w).Le (ctx F μ' κ' ((d, some blk) :: s.hp) (w1.alloc o)) (fun i => i ≠ d) := by
    refine ⟨fun i hi => .inr ?_, fun b hb hav => ?_, by show w.heap.size ≤ (w1.alloc o).heap.size; rw [hsize]; omega, fun b o' hb hav => ?_⟩
    · have hi' : ¬ d = i := fun h => hi h.symm
      refine ⟨?_, ?_, ?_⟩
      · show (lkH ((d, some blk) :: s.hp) i).map _ = (lkH s.hp i).map _
        rw [hlk, if_neg hi']
      · show (if i = d then _ else _) = _
        rw [if_neg hi]; rfl
      · show (if i = d then _ else _) = _
        rw [if_neg hi]; rfl
    · rcases hav with hA | ⟨i, hi, rfl⟩
      · exact .inl hA
      · by_cases hid : d = i
        · exfalso
          have : μ' i = w.heap.size := if_pos hid.symm
          rw [this] at hb
          exact Nat.lt_irrefl _ hb
        · refine .inr ⟨i, ?_, ?_⟩
          · rw [hlk, if_neg hid] at hi; exact hi
          · show μ i = (if i = d then _ else _)
            rw [if_neg (fun h => hid h.symm)]
    · exact World.cell?_of_block (hold b hb)
  have hchg : Chg F.B0 F.w0 (w1.alloc o) := by
    refine R.chg.trans (B' := fun _ => False) ⟨hw1.os, hw1.tape, hw1.output, by rw [hsize]; omega, fun b hb _ => hold b hb, hw1.drawn⟩ (fun _ h => h) (fun _ _ h => h.elim)
  have hμd : μ' d = w.heap.size := if_pos rfl
  have hκd : κ' d = cap := if_pos rfl
  have R' : RepS F μ' κ' ⟨s.tm, (d, some blk) :: s.hp⟩ a (w1.alloc o) := by
    refine R.move (fun i => i ≠ d) hchg ?_ ?_ hle (fun i id h => ?_) (fun i h1 h2 => by have := F.hN; exact ⟨if_neg (by omega), if_neg (by omega)⟩)
    · intro i j hi hj hij
      by_cases h1 : i = d
      · by_cases h2 : j = d
        · rw [h1, h2]
        · exfalso
          have e1 : μ' i = w.heap.size := if_pos h1
          have e2 : μ' j = μ j := if_neg h2
          have := hμlt j (by rw [hlk, if_neg (fun h => h2 h.symm)] at hj; exact hj)
          omega
      · by_cases h2 : j = d
        · exfalso
          have e1 : μ' j = w.heap.size := if_pos h2
          have e2 : μ' i = μ i := if_neg h1
          have := hμlt i (by rw [hlk, if_neg (fun h => h1 h.symm)] at hi; exact hi)
          omega
        · have e1 : μ' i = μ i := if_neg h1
          have e2 : μ' j = μ j := if_neg h2
          rw [hlk, if_neg (fun h => h1 h.symm)] at hi
          rw [hlk, if_neg (fun h => h2 h.symm)] at hj
          exact R.inj i j hi hj (by omega)
    · intro i b hb
      rw [hlk] at hb
      by_cases h1 : d = i
      · rw [if_pos h1] at hb
        injection hb with hb
        subst hb h1
        refine ⟨hblk _ hle hμd hκd rfl, ?_, .inr ?_⟩
        · rw [hμd]; intro hA; have := F.hA _ hA; have := R.chg.size; omega
        · rw [hμd]; exact R.chg.size
      · rw [if_neg h1] at hb
        obtain ⟨hB, hA, hpos⟩ := R.own i b hb
        have e1 : μ' i = μ i := if_neg (fun h => h1 h.symm)
        have e2 : κ' i = κ i := if_neg (fun h => h1 h.symm)
        have hlt := hμlt i (by rw [hb]; simp)
        rw [e1]
        refine ⟨RepB.mono hle e1 e2 (hold _ hlt) (fun o' => World.cell?_of_block (hold _ hlt)) (fun ty cells hbe i' hi' => ?_) hB, hA, hpos⟩
        subst hbe
        intro he
        subst he
        have := mentHp_lk hm2 i ty cells hb
        rw [this] at hi'
        cases hi'
    · intro he
      subst he
      rw [mentTm_lk hm1 i] at h
      cases h
  refine ⟨μ', κ', R'.put (hv _ hle hμd hκd ?_) hd⟩
  show (lkH ((d, some blk) :: s.hp) d).map _ = _
  rw [hlk, if_pos rfl]; rfl

theorem effNew_sound {ops : List Oper} {o : Oper} {s : ISt} {blk : IBlk} {v : Nat → IV} {ob : Prop} (hob : (effNew F.N ops o s blk v ob).ob)
    (hrun : ∀ d, o.dst = some d → (gval s.tm ops o).1 = true → ob → ∀ μ κ a w, RepS F μ κ s a w → mentTm d s.tm = false → mentHp d s.hp = false →
      ∃ x obj w1 cap, (execOp a.eval o).run P w = .ok (.value x) (World.alloc w1 obj) ∧ Chg (fun _ => False) w w1 ∧ w1.heap.size = w.heap.size ∧
        (∀ c : Ctx, (ctx F μ κ s.hp w).Le c (fun i => i ≠ d) → c.μ d = w.heap.size → c.κ d = cap → c.w = w1.alloc obj → RepB c d blk) ∧
        (∀ c : Ctx, (ctx F μ κ s.hp w).Le c (fun i => i ≠ d) → c.μ d = w.heap.size → c.κ d = cap → c.sh d = some blk.shape → RepV c (v d) x)) :
    StepOK P F ops o s (effNew F.N ops o s blk v ob) := by
  intro μ κ a w R Q next hn
  unfold effNew at hob hn
  cases hd : o.dst with
  | none => rw [hd] at hob; exact hob.elim
  | some d =>
    simp only [hd] at hob hn
    cases hG : (gval s.tm ops o).1 with
    | false =>
      rw [hG] at hob hn
      have := skipE_sound (P := P) (Q := Q) (next := next) R hob hG
      rw [← hd]
      exact this hn
    | true =>
      rw [hG] at hob hn
      simp only [cond_true] at hob hn
      obtain ⟨hg, hdN, hm1, hm2, hob'⟩ := hob
      rw [gval_wanted R hg, hG]
      simp only [if_true]
      refine .inl ?_
      obtain ⟨x, obj, w1, cap, hr, hw1, hw1s, hb, hv⟩ := hrun d hd hG hob' μ κ a w R hm1 hm2
      unfold Oper.wp
      rw [hr, Oper.upon_value, hd]
      obtain ⟨μ', κ', R'⟩ := newBlock R hdN hm1 hm2 hw1 hw1s cap blk hb (v d) x hv
      exact hn μ' κ' _ _ R'

theorem effAlloc_sound (hT : TOK P T) {t : TypeId} (ho : o.op = .alloc t) (hob : (effAlloc T F.N ops o t s).ob) : StepOK P F ops o s (effAlloc T F.N ops o t s) := by
  refine effNew_sound hob ?_
  intro d hd hG hon μ κ a w R hm1 hm2
  obtain ⟨i, z, hi, hsz, _, hz, helt, hfree⟩ := (hT t hon).info
  refine ⟨.pointer (some ⟨w.heap.size, 0, none⟩), .cells z.cells t, w, 0, ?_, Chg.refl _ _, rfl, ?_, ?_⟩
  · simp [execOp, ho, Instr.alloc, zeroValue, typeInfo, hi, hz, newVar, newRow]
  · intro c hle hμ hκ hw
    refine ⟨z.cells.toList, ?_, hfree c, helt.2.1⟩
    rw [hw, hμ]
    exact heap_alloc_at w _
  · intro c hle hμ hκ hs
    simp only [RepV]
    exact ⟨_, rfl, fun _ => by rw [hμ]⟩

theorem effBox_sound {t : TypeId} {x : Operand} (ho : o.op = .box t x) (hob : (effBox T F.N ops o t x s).ob) : StepOK P F ops o s (effBox T F.N ops o t x s) := by
  refine effNew_sound hob ?_
  rintro d hd hG ⟨hb, hs, hone⟩ μ κ a w R hm1 hm2
  have hx := gO_rep R hb
  refine ⟨.pointer (some ⟨w.heap.size, 0, none⟩), .cells (a.eval x).cells t, w, 0, ?_, Chg.refl _ _, rfl, ?_, ?_⟩
  · simp [execOp, ho, Instr.box, newVar, newRow]
  · intro c hle hμ hκ hw
    have hx' := RepV.mono hle _ _ (fun i hi => by rintro rfl; rw [gO_ment hm1 x] at hi; cases hi) hx
    have hL := cells_rep hx' hs
    refine ⟨(a.eval x).cells.toList, ?_, hL, all_one hL hone⟩
    rw [hw, hμ]
    exact heap_alloc_at w _
  · intro c hle hμ hκ hs'
    simp only [RepV]
    exact ⟨_, rfl, fun _ => by rw [hμ]⟩

end
end Go.Ideal

/- Slices that are built or made. -/
set_option linter.unusedVariables false
set_option linter.unusedSimpArgs false
namespace Go.Ideal
open Go

section
variable {P : Program} {T : Nat → TD} {F : Fr} {μ κ : Nat → Nat} {s : ISt} {a : Act} {w : World} {ops : List Oper} {o : Oper}

theorem noId'_ok {x : IV} (h : noId' x = true) : noId x := by
  intro id
  cases x <;> simp [noId'] at h <;> simp [IV.ment]
  rename_i l
  induction l with
  | nil => simp [IV.mentL]
  | cons y l ih =>
    have hy := h y (by simp)
    simp only [IV.mentL, Bool.or_eq_false_iff]
    refine ⟨?_, ih (fun z hz => h z (by simp [hz]))⟩
    cases y <;> simp at hy <;> simp [IV.ment]

theorem noIdL_of {l : List IV} (h : ∀ x ∈ l, noId x) : noIdL l := by
  intro id
  induction l with
  | nil => simp [IV.mentL]
  | cons x l ih =>
    simp only [IV.mentL, Bool.or_eq_false_iff]
    exact ⟨h x (by simp) id, ih (fun y hy => h y (by simp [hy]))⟩

theorem noIdL_mem : ∀ {l : List IV}, noIdL l → ∀ x ∈ l, noId x
  | [], _, x, hx => by simp at hx
  | y :: l, h, x, hx => by
    rcases List.mem_cons.1 hx with rfl | hx
    · intro id; have := h id; simp only [IV.mentL, Bool.or_eq_false_iff] at this; exact this.1
    · refine noIdL_mem (l := l) (fun id => ?_) x hx
      have := h id; simp only [IV.mentL, Bool.or_eq_false_iff] at this; exact this.2

theorem eltsI_mem {k : Nat} : ∀ {l : List IV}, eltsI k l → ∀ x ∈ l, eltI k x ∧ noId x
  | [], _, x, hx => by simp at hx
  | y :: l, h, x, hx => by
    simp only [eltsI] at h
    rcases List.mem_cons.1 hx with rfl | hx
    · exact ⟨h.1, noId'_ok h.2.1⟩
    · exact eltsI_mem h.2.2 x hx

theorem fill_parts {c : Ctx} {tm : List (Nat × IV)} {ρ : Operand → Value} {k : Nat} (hρ : ∀ x, gB tm x = true → RepV c (gO tm x) (ρ x)) :
    ∀ (parts : List (Nat × Operand)) (i : Nat) (l : List Value), (partsL tm i parts).2 → eltsI k (partsL tm i parts).1 → l.length = (i + parts.length) * k →
    ∃ xs, RepX c k (partsL tm i parts).1 xs ∧ Instr.fill (fun i => some (i * k, k)) ⟨l⟩ (parts.map fun p => (p.1, ρ p.2)) = some ⟨l.take (i * k) ++ xs⟩
  | [], i, l, _, _, hl => by
    refine ⟨[], by simp [partsL, RepX], ?_⟩
    simp only [List.map_nil, Instr.fill, List.append_nil]
    rw [List.take_of_length_le (by simp at hl; omega)]
  | (j, x) :: parts, i, l, hp, he, hl => by
    simp only [partsL] at hp he ⊢
    obtain ⟨rfl, hb, hr⟩ := hp
    simp only [eltsI] at he
    have hv := hρ x hb
    have hk := eltI_ok hv he.1
    have hlen := eltOk_cells hk
    have hl' : l.length = j * k + k + parts.length * k := by rw [hl]; simp [Nat.add_mul]; omega
    obtain ⟨xs, hX, hf⟩ := fill_parts hρ parts (j + 1) (overV l (j * k) (ρ x).cells.toList) hr he.2.2 (by
      simp only [overV, List.length_append, List.length_take, List.length_drop, hlen, Nat.add_mul]; omega)
    refine ⟨(ρ x).cells.toList ++ xs, ⟨_, _, rfl, hv, hk, hX⟩, ?_⟩
    simp only [List.map_cons, Instr.fill]
    have hsz : (ρ x).cells.size = k := by simpa using hlen
    rw [if_neg (by simp only [List.size_toArray, ne_eq, Bool.or_eq_true, decide_eq_true_eq, not_or, bne_iff_ne]; exact ⟨by simpa using hsz, by omega⟩)]
    have hfold : ((ρ x).cells.zipIdx.foldl (fun (cs : Array Value) (p : Value × Nat) => cs.setIfInBounds (j * k + p.2) p.1) ⟨l⟩) = ⟨overV l (j * k) (ρ x).cells.toList⟩ := by
      have := fold_over (ρ x).cells.toList 0 (j * k) l (by rw [hlen]; omega)
      rw [← Array.foldl_toList]
      simpa using this
    refine Eq.trans (congrArg (fun A => Instr.fill (fun i => some (i * k, k)) A (parts.map fun p => (p.1, ρ p.2))) hfold) ?_
    rw [hf]
    congr 2
    have e : (overV l (j * k) (ρ x).cells.toList).take ((j + 1) * k) = l.take (j * k) ++ (ρ x).cells.toList := by
      unfold overV
      rw [List.take_append_of_le_length (by simp [hlen, Nat.add_mul]; omega), List.take_of_length_le (by simp [hlen, Nat.add_mul]; omega)]
    rw [e]
    simp

theorem partsL_ment {d : Nat} {tm : List (Nat × IV)} (h : ∀ x, (gO tm x).ment d = false) : ∀ (parts : List (Nat × Operand)) (i : Nat), IV.mentL d (partsL tm i parts).1 = false
  | [], i => by simp [partsL, IV.mentL]
  | (j, x) :: parts, i => by simp [partsL, IV.mentL, h x, partsL_ment h parts (i + 1)]

theorem partsL_length {tm : List (Nat × IV)} : ∀ (parts : List (Nat × Operand)) (i : Nat), (partsL tm i parts).1.length = parts.length
  | [], i => by simp [partsL]
  | (j, x) :: parts, i => by simp [partsL, partsL_length parts (i + 1)]

theorem effBuildSlice_sound (hT : TOK P T) {t : TypeId} {n : Nat} {parts : Array (Nat × Operand)} (ho : o.op = .buildSlice t n parts) (hob : (effBuildSlice T F.N ops o t n parts.toList s).ob) :
    StepOK P F ops o s (effBuildSlice T F.N ops o t n parts.toList s) := by
  refine effNew_sound hob ?_
  rintro d hd hG ⟨hon, he, hoe, hn, hbig, hp, helts⟩ μ κ a w R hm1 hm2
  have hu := (hT t hon).slice he
  obtain ⟨i, z, hi, hsz, _, hz, helt, hfree⟩ := (hT _ hoe).info
  have hk1 : 1 ≤ (T (T t).elem).size := (hT _ hoe).pos
  generalize hk : (T (T t).elem).size = k at *
  let l0 : Array Value := (Array.range (n * k)).map fun x => (if n * k = 0 then #[] else z.cells)[x % (if n * k = 0 then #[] else z.cells).size]!
  obtain ⟨xs, hX, hf⟩ := fill_parts (c := ctx F μ κ s.hp w) (ρ := a.eval) (k := k) (fun x hb => gO_rep R hb) parts.toList 0 l0.toList hp helts (by simp [l0, hn])
  have hlen := hX.length
  rw [partsL_length] at hlen
  have hpl : (partsL s.tm 0 parts.toList).1.length = n := by rw [partsL_length, hn]
  refine ⟨.slice (some ⟨w.heap.size, 0, none⟩) n n, .cells ⟨xs⟩ (T t).elem, w, n, ?_, Chg.refl _ _, rfl, ?_, ?_⟩
  · have hsk : ∀ w, (sizeOf (T t).elem).run P w = .ok k w := fun w => by rw [← hk]; exact (hT _ hoe).size w
    have hf' : Instr.fill (fun i => some (i * k, k)) l0 (parts.map fun p => (p.1, a.eval p.2)).toList = some ⟨xs⟩ := by
      have e : (parts.map fun p => (p.1, a.eval p.2)).toList = parts.toList.map fun p => (p.1, a.eval p.2) := by simp
      rw [e]
      have e2 : (⟨l0.toList⟩ : Array Value) = l0 := by simp
      rw [e2] at hf
      simpa using hf
    have hb : ¬ (n * k > 2 ^ 24) := by omega
    by_cases hz0 : n * k = 0
    · simp only [l0, hz0, if_true] at hf'
      have hb0 : ¬ ((0 : Nat) > 2 ^ 24) := by decide
      simp only [execOp, ho, Instr.buildSlice, Sem.run_bind, run_underlying hu, Result.andThen_ok, hsk, hb0, if_false, hz0, if_true, Sem.run_pure, hf', newRow, run_newObj]
      rfl
    · simp only [l0, hz0, if_false] at hf'
      simp only [execOp, ho, Instr.buildSlice, Sem.run_bind, run_underlying hu, Result.andThen_ok, hsk, hb, if_false, hz0, zeroValue, typeInfo, run_program, hi, hz, Sem.run_pure, hf', newRow, run_newObj]
      rfl
  · intro c hle hμ hκ hw
    have hno : noIdL (partsL s.tm 0 parts.toList).1 := noIdL_of fun x hx => (eltsI_mem helts x hx).2
    refine ⟨⟨xs⟩, by rw [hw, hμ]; exact heap_alloc_at w _, by rw [hκ]; simp [hlen, hn], by rw [hκ]; have : n ≤ n * k := Nat.le_mul_of_pos_right _ hk1; unfold maxLen; omega, hk1, by rw [hκ, hpl]; exact Nat.le_refl _, hno, ?_⟩
    refine (hX.mono hle (fun id h => ?_)).toR (fun j u hu' => ?_)
    · rintro rfl
      rw [partsL_ment (gO_ment hm1)] at h
      cases h
    · rw [hw, hμ, Nat.zero_add, cell_of_row _ _ _ _ _ _ (heap_alloc_at w _)]
      simpa using hu'
  · intro c hle hμ hκ hs
    simp only [RepV]
    refine ⟨_, n, rfl, by simp, fun k' hk' hs' => ⟨Nat.le_refl _, by rw [hκ]; omega, fun _ => by rw [hκ]; omega, fun _ => by rw [hμ]; simp⟩⟩

theorem madeCells_get {zc : Array Value} {n q : Nat} (hq : q < n) (hz : 0 < zc.size) : (madeCells zc n)[q]? = zc[q % zc.size]? := by
  unfold madeCells
  have hlt : q % zc.size < zc.size := Nat.mod_lt _ hz
  rw [Array.getElem?_map]
  have : (Array.range n)[q]? = some q := by
    rw [Array.getElem?_eq_getElem (by simpa using hq)]
    simp
  rw [this]
  simp [hlt]

theorem zeroElt_rep {c : Ctx} {d : TD} {z : Value} (he : EltOk d.size z) (hf : freeOK d.zero z.cells.toList) : RepV c (zeroElt d) z := by
  have hL := hf c
  unfold zeroElt
  obtain ⟨h1, h2, h3, h4⟩ := he
  by_cases hs : 2 ≤ d.size
  · rw [if_pos hs]
    cases z with
    | agg cs => simp only [RepV]; exact ⟨cs.toList, by simp, by simpa [Value.cells] using hL⟩
    | _ => simp [isAggV, hs] at h3
  · rw [if_neg hs]
    have hz : z.cells = #[z] := by
      cases z with
      | agg cs => simp [isAggV, hs] at h3
      | _ => rfl
    rw [hz] at hL
    cases hzz : d.zero with
    | nil => rw [hzz] at hL; simp [RepL] at hL
    | cons x l =>
      rw [hzz] at hL
      simp only [RepL] at hL
      obtain ⟨v, r, hv, hx, _⟩ := hL
      simp only [List.cons.injEq] at hv
      simp only [List.headD_cons]
      rw [hv.1]
      exact hx

theorem RepR_replicate {c : Ctx} {k b : Nat} {e : IV} {x : Value} (hx : RepV c e x) (hk : EltOk k x) : ∀ (n m : Nat),
    (∀ q, q < (m + n) * k → c.w.cell? ⟨b, q, none⟩ = x.cells[q % k]?) → RepR c k b (m * k) (List.replicate n e)
  | 0, m, _ => by simp [RepR]
  | n + 1, m, h => by
    have hk1 := hk.2.2.2
    simp only [List.replicate_succ, RepR]
    refine ⟨⟨x, hx, hk, fun j hj => ?_⟩, ?_⟩
    · rw [h (m * k + j) (by rw [Nat.add_mul, Nat.add_mul]; omega)]
      congr 1
      rw [Nat.mul_comm, Nat.mul_add_mod]
      exact Nat.mod_eq_of_lt hj
    · have := RepR_replicate hx hk n (m + 1) (fun q hq => h q (by rw [show m + (n + 1) = m + 1 + n by omega]; exact hq))
      rwa [Nat.add_mul, Nat.one_mul] at this

theorem effMake_sound (hT : TOK P T) {t : TypeId} {l c : Operand} (ho : o.op = .makeSlice t l c) (hob : (effMake T F.N ops o t l c s).ob) :
    StepOK P F ops o s (effMake T F.N ops o t l c s) := by
  unfold effMake at hob ⊢
  split at hob
  · rename_i kL L kC C eL eC
    refine effNew_sound hob ?_
    rintro d hd hG ⟨hon, he, hoe, hbl, hbc, h0, hLC, hby, hC, hno⟩ μ κ a w R hm1 hm2
    have hu := (hT t hon).slice he
    obtain ⟨i, z, hi, hsz, hbytes, hz, helt, hfree⟩ := (hT _ hoe).info
    have hk1 : 1 ≤ (T (T t).elem).size := (hT _ hoe).pos
    have hl := gO_rep R hbl
    have hc := gO_rep R hbc
    rw [eL] at hl
    rw [eC] at hc
    simp only [RepV] at hl hc
    have hrun := run_make (P := P) w t (T t).elem i z hu hi hz kL kC L C h0 hLC (by rw [hbytes, Int.mul_comm]; omega) (by omega)
    have hzs : z.cells.size = (T (T t).elem).size := helt.1
    refine ⟨.slice (some ⟨w.heap.size, 0, none⟩) L.toNat C.toNat, .cells (madeCells z.cells (C.toNat * i.size)) (T t).elem, w, C.toNat, ?_, Chg.refl _ _, rfl, ?_, ?_⟩
    · simp only [execOp, ho, hl, hc, Sem.run_bind, hrun, Result.andThen_ok, Sem.run_pure]
    · intro c' hle hμ hκ hw
      have hheap : c'.w.heap[c'.μ d]? = some (.cells (madeCells z.cells (C.toNat * i.size)) (T t).elem (0, 0)) := by rw [hw, hμ]; exact heap_alloc_at w _
      refine ⟨_, hheap, by rw [hκ, size_madeCells, hsz], by rw [hκ]; unfold maxLen; omega, hk1, by rw [hκ]; simp; omega, ?_, ?_⟩
      · exact noIdL_of fun x hx => by rw [List.eq_of_mem_replicate hx]; exact noId'_ok hno
      · have hzr : RepV c' (zeroElt (T (T t).elem)) z := zeroElt_rep helt hfree
        have := RepR_replicate (b := c'.μ d) hzr helt L.toNat 0 (fun q hq => by
          rw [cell_of_row _ _ _ _ _ _ hheap, ← hzs]
          refine madeCells_get ?_ (by omega)
          rw [hsz]
          exact Nat.lt_of_lt_of_le hq (Nat.mul_le_mul_right _ (by omega)))
        simpa using this
    · intro c' hle hμ hκ hs
      simp only [RepV]
      refine ⟨_, _, rfl, by simp, fun k' hk' hs' => ⟨by omega, by rw [hκ]; omega, fun _ => by rw [hκ]; omega, fun _ => by rw [hμ]; simp⟩⟩
  · exact hob.elim

end
end Go.Ideal

/- Stores, append and calls. -/
set_option linter.unusedVariables false
set_option linter.unusedSimpArgs false
namespace Go.Ideal
open Go

/-- What a store through a pointer makes of its block. -/
def storeV (T : Nat → TD) (h : Nat → Option IBlk) (t : TypeId) (x : IV) : IV → (Nat × IBlk) × Prop
  | .ptr id off =>
    match h id with
    | some (.box ty cells) => ((id, .box ty (over cells off x.cells)), (T t).on = true ∧ solid x = true ∧ x.cells.all oneI = true ∧ x.cells.length = (T t).size ∧ off + x.cells.length ≤ cells.length)
    | _ => ((0, default), False)
  | .aptr id i off =>
    match h id with
    | some (.arr k ty es) =>
      if off = 0 ∧ (T t).size = k then ((id, .arr k ty (es.set i x)), (T t).on = true ∧ solid x = true ∧ eltI k x ∧ noId' x = true ∧ i < es.length)
      else match es.getD i .junk with
        | .agg l => ((id, .arr k ty (es.set i (.agg (over l off x.cells)))), (T t).on = true ∧ solid x = true ∧ x.cells.length = (T t).size ∧ off + x.cells.length ≤ l.length ∧ i < es.length ∧ eltI k (.agg (over l off x.cells)) ∧ noId' (.agg (over l off x.cells)) = true)
        | _ => ((0, default), False)
    | _ => ((0, default), False)
  | _ => ((0, default), False)

def effStore (T : Nat → TD) (N : Nat) (ops : List Oper) (o : Oper) (t : TypeId) (p x : Operand) (s : ISt) : Eff :=
  bif (gval s.tm ops o).1 then
    { ob := (gval s.tm ops o).2 ∧ o.dst = none ∧ gB s.tm p = true ∧ gB s.tm x = true ∧ (storeV T (lkH s.hp) t (gO s.tm x) (gO s.tm p)).2, tv := [],
      hv := [((storeV T (lkH s.hp) t (gO s.tm x) (gO s.tm p)).1.1, some (storeV T (lkH s.hp) t (gO s.tm x) (gO s.tm p)).1.2)] }
  else { ob := (gval s.tm ops o).2 ∧ o.dst = none, tv := [], hv := [] }

section
variable {P : Program} {T : Nat → TD} {F : Fr} {μ κ : Nat → Nat} {s : ISt} {a : Act} {w : World} {ops : List Oper} {o : Oper}

theorem lt_of_own (R : RepS F μ κ s a w) {id : Nat} {b : IBlk} (hb : lkH s.hp id = some b) : μ id < w.heap.size := by
  obtain ⟨hB, _⟩ := R.own id b hb
  cases b with
  | box ty cells => obtain ⟨cs, h1, _⟩ := hB; exact (Array.getElem?_eq_some_iff.1 h1).1
  | arr k ty es => obtain ⟨cur, h1, _⟩ := hB; exact (Array.getElem?_eq_some_iff.1 h1).1

/-- One block of the frame's own is written: the others stand. -/
theorem writeBlock (R : RepS F μ κ s a w) {id : Nat} {b b' : IBlk} (hb : lkH s.hp id = some b) (hs : b'.shape = b.shape) {w' : World}
    (hw : Chg (fun x => x = μ id) w w') (hz : w'.heap.size = w.heap.size)
    (hB : ∀ c : Ctx, (ctx F μ κ s.hp w).Le c (fun _ => True) → c.μ = μ → c.κ = κ → c.w = w' → RepB c id b') :
    RepS F μ κ ⟨s.tm, (id, some b') :: s.hp⟩ a w' := by
  have hlk : ∀ i, lkH ((id, some b') :: s.hp) i = if id = i then some b' else lkH s.hp i := fun i => rfl
  have hne : ∀ i, lkH ((id, some b') :: s.hp) i ≠ none ↔ lkH s.hp i ≠ none := by
    intro i
    rw [hlk]
    by_cases h : id = i
    · subst h; simp [hb]
    · rw [if_neg h]
  have hown := (R.own id b hb).2
  have hle : (ctx F μ κ s.hp w).Le (ctx F μ κ ((id, some b') :: s.hp) w') (fun _ => True) := by
    refine ⟨fun i _ => .inr ⟨?_, rfl, rfl⟩, fun x hx hav => ?_, by show w.heap.size ≤ w'.heap.size; omega, fun x o' hx hav => ?_⟩
    · show (lkH ((id, some b') :: s.hp) i).map _ = (lkH s.hp i).map _
      rw [hlk]
      by_cases h : id = i
      · subst h; rw [if_pos rfl, hb]; simp [hs]
      · rw [if_neg h]
    · rcases hav with hA | ⟨i, hi, he⟩
      · exact .inl hA
      · exact .inr ⟨i, (hne i).1 hi, he⟩
    · refine World.cell?_of_block (hw.block x hx (fun he => hav (.inr ⟨id, by rw [hb]; simp, he.symm⟩)))
  have hchg : Chg F.B0 F.w0 w' := by
    refine R.chg.trans hw (fun _ h => h) (fun x hx he => ?_)
    subst he
    rcases hown.2 with h | h
    · exact h
    · omega
  refine R.move (fun _ => True) hchg (fun i j hi hj => R.inj i j ((hne i).1 hi) ((hne j).1 hj)) (fun i c hc => ?_) hle (fun _ _ _ => trivial) (fun _ _ _ => ⟨rfl, rfl⟩)
  rw [hlk] at hc
  by_cases h : id = i
  · rw [if_pos h] at hc
    injection hc with hc
    subst hc h
    exact ⟨hB _ hle rfl rfl rfl, hown⟩
  · rw [if_neg h] at hc
    obtain ⟨hB', hr⟩ := R.own i c hc
    have hneb : μ i ≠ μ id := fun he => h (R.inj id i (by rw [hb]; simp) (by rw [hc]; simp) he.symm)
    have hlt := lt_of_own R hc
    exact ⟨RepB.mono hle rfl rfl (hw.block _ hlt hneb) (fun o' => World.cell?_of_block (hw.block _ hlt hneb)) (fun _ _ _ _ _ => trivial) hB', hr⟩

theorem run_storeVar {t : TypeId} {d : TD} (ht : TyOK P t d) {v : Value} (hv : v.cells.size = d.size) (g off : Nat) (ty : TypeId) (cur : Array Value) (w : World) (hg : w.heap[g]? = some (.cells cur ty (0, 0)))
    (hfit : off + v.cells.size ≤ cur.size) (h1 : ∀ u ∈ v.cells.toList, u.oneCell' = true) :
    (storeVar t ⟨g, off, none⟩ v).run P w = .ok () (w.setRow g ⟨overV cur.toList off v.cells.toList⟩) := by
  have := run_storeCells_at P g off ty v.cells.toList 0 cur w hg (by simpa using hfit) h1
  simp only [storeVar, Sem.run_bind, ht.size, Result.andThen_ok, hv, ne_eq, not_true_eq_false, if_false, this, overV, Nat.add_zero]

theorem chg_setRow (w : World) (g : Nat) (cs : Array Value) : Chg (fun x => x = g) w (w.setRow g cs) :=
  ⟨rfl, rfl, rfl, by simp, fun b _ hb => setRow_other w g b cs hb, Later.of (Nat.le_refl _)⟩

theorem RepR.set {c : Ctx} {k b : Nat} {e : IV} {x : Value} (hx : RepV c e x) (hk : EltOk k x) : ∀ {es : List IV} {o : Nat} (i : Nat), i < es.length →
    RepR c k b o es → ∀ {c' : Ctx}, c.Le c' (fun _ => True) →
    (∀ q, (q < o + i * k ∨ o + i * k + k ≤ q) → c'.w.cell? ⟨b, q, none⟩ = c.w.cell? ⟨b, q, none⟩) → (∀ j, j < k → c'.w.cell? ⟨b, o + i * k + j, none⟩ = x.cells[j]?) →
    RepR c' k b o (es.set i e)
  | [], o, i, hi, _, _, _, _, _ => by simp at hi
  | e0 :: es, o, 0, hi, h, c', L, hout, hin => by
    simp only [RepR, List.set_cons_zero] at h ⊢
    refine ⟨⟨x, RepV.mono L e x (fun _ _ => trivial) hx, hk, fun j hj => by have := hin j hj; simpa using this⟩, ?_⟩
    obtain ⟨xs, hX, hc⟩ := h.2.toX
    exact (hX.mono L (fun _ _ => trivial)).toR (fun j u hu => by rw [hout _ (by right; omega)]; exact hc j u hu)
  | e0 :: es, o, i + 1, hi, h, c', L, hout, hin => by
    simp only [RepR, List.set_cons_succ] at h ⊢
    obtain ⟨⟨y, hy, hk', hc⟩, hr⟩ := h
    have hmul : o + (i + 1) * k = o + k + i * k := by rw [Nat.add_mul]; omega
    refine ⟨⟨y, RepV.mono L e0 y (fun _ _ => trivial) hy, hk', fun j hj => by rw [hout _ (by left; rw [hmul]; omega)]; exact hc j hj⟩, ?_⟩
    refine RepR.set hx hk i (by simpa using hi) hr L (fun q hq => hout q (by rw [hmul]; exact hq)) (fun j hj => ?_)
    have := hin j hj
    rwa [hmul] at this

theorem overV_get {l cs : List Value} {o : Nat} (hfit : o + cs.length ≤ l.length) (q : Nat) :
    (overV l o cs)[q]? = if q < o then l[q]? else if q < o + cs.length then cs[q - o]? else l[q]? := by
  unfold overV
  have h1 : (l.take o).length = o := by simp; omega
  by_cases ha : q < o
  · rw [if_pos ha, List.append_assoc, List.getElem?_append_left (by omega), List.getElem?_take, if_pos ha]
  · rw [if_neg ha]
    by_cases hb : q < o + cs.length
    · rw [if_pos hb, List.getElem?_append_left (by simp; omega), List.getElem?_append_right (by omega), h1]
    · rw [if_neg hb, List.getElem?_append_right (by simp; omega), List.getElem?_drop]
      congr 1
      simp; omega

/-- An element is written: the value x over k cells, or a part of it. -/
theorem storeElt (R : RepS F μ κ s a w) {id k : Nat} {ty : TypeId} {es : List IV} (hb : lkH s.hp id = some (.arr k ty es)) {i off : Nat} (hi : i < es.length) {cs : List Value} {y : Value} {e : IV}
    (hoff : off + cs.length ≤ k) (hy : EltOk k y) (hno : noId e)
    (he : RepV (ctx F μ κ s.hp w) e y)
    (hcells : ∀ x, RepV (ctx F μ κ s.hp w) (es.getD i .junk) x → EltOk k x → (∀ j, j < k → w.cell? ⟨μ id, i * k + j, none⟩ = x.cells[j]?) → y.cells.toList = overV x.cells.toList off cs)
    {cur : Array Value} (hcur : w.heap[μ id]? = some (.cells cur ty (0, 0))) :
    i * k + off + cs.length ≤ cur.size ∧ RepS F μ κ ⟨s.tm, (id, some (.arr k ty (es.set i e))) :: s.hp⟩ a (w.setRow (μ id) ⟨overV cur.toList (i * k + off) cs⟩) := by
  obtain ⟨⟨cur', h1, h2, h3, h4, h5, h6, h7⟩, hr⟩ := R.own id _ hb
  have h1' : w.heap[μ id]? = some (.cells cur' ty (0, 0)) := h1
  rw [hcur] at h1'
  injection h1' with h1'
  injection h1' with h1'
  subst h1'
  have h2' : cur.size = κ id * k := h2
  have h5' : es.length ≤ κ id := h5
  have hfit : i * k + off + cs.length ≤ cur.size := by
    have : (i + 1) * k ≤ κ id * k := Nat.mul_le_mul_right _ (by omega)
    rw [Nat.add_mul] at this
    omega
  refine ⟨hfit, ?_⟩
  refine writeBlock R (b' := .arr k ty (es.set i e)) hb rfl (chg_setRow _ _ _) (by simp) (fun c hle hμ hκ hw => ?_)
  have hsize : (⟨overV cur.toList (i * k + off) cs⟩ : Array Value).size = cur.size := by
    simp only [overV, List.size_toArray, List.length_append, List.length_take, List.length_drop, Array.length_toList]; omega
  have hheap : c.w.heap[c.μ id]? = some (.cells ⟨overV cur.toList (i * k + off) cs⟩ ty (0, 0)) := by rw [hw, hμ]; exact setRow_heap w _ cur _ _ _ hcur
  refine ⟨_, hheap, by rw [hsize, hκ]; exact h2', by rw [hκ]; exact h3, h4, by rw [hκ]; simpa using h5', ?_, ?_⟩
  · refine noIdL_of fun z hz => ?_
    rcases List.mem_or_eq_of_mem_set hz with hz | rfl
    · exact noIdL_mem h6 z hz
    · exact hno
  · obtain ⟨x, hx, hkx, hcx⟩ := h7.get i hi
    have hcx' : ∀ j, j < k → w.cell? ⟨μ id, i * k + j, none⟩ = x.cells[j]? := fun j hj => by have := hcx j hj; rwa [Nat.zero_add] at this
    have hyc := hcells x hx hkx hcx'
    have hxl := eltOk_cells hkx
    have hcell : ∀ q, c.w.cell? ⟨c.μ id, q, none⟩ = (overV cur.toList (i * k + off) cs)[q]? := fun q => by rw [cell_of_row _ _ _ _ _ _ hheap]; simp
    have hold : ∀ q, w.cell? ⟨μ id, q, none⟩ = cur.toList[q]? := fun q => by rw [cell_of_row _ _ _ _ _ _ hcur]; simp
    have hov := overV_get (l := cur.toList) (cs := cs) (o := i * k + off) (by simpa using hfit)
    rw [hμ]
    refine RepR.set (c := ctx F μ κ s.hp w) (b := μ id) he hy i hi h7 hle (fun q hq => ?_) (fun j hj => ?_)
    · have := hcell q
      rw [hμ] at this
      rw [this, hov]
      show _ = w.cell? _
      rw [hold]
      rcases hq with hq | hq
      · rw [if_pos (by omega)]
      · rw [if_neg (by omega), if_neg (by omega)]
    · have := hcell (0 + i * k + j)
      rw [hμ] at this
      rw [this, hov]
      have e1 : y.cells[j]? = y.cells.toList[j]? := by simp
      rw [e1, hyc, overV_get (by omega)]
      by_cases ha : j < off
      · rw [if_pos (by omega), if_pos ha, ← hold, Nat.zero_add, hcx' j hj]; simp
      · by_cases hb' : j < off + cs.length
        · rw [if_neg (by omega), if_pos (by omega), if_neg ha, if_pos hb']
          congr 1; omega
        · rw [if_neg (by omega), if_neg (by omega), if_neg ha, if_neg hb', ← hold, Nat.zero_add, hcx' j hj]; simp

theorem storeV_run (hT : TOK P T) (R : RepS F μ κ s a w) {t : TypeId} {x p : IV} {v u : Value} (hx : RepV (ctx F μ κ s.hp w) x v) (hp : RepV (ctx F μ κ s.hp w) p u) (hob : (storeV T (lkH s.hp) t x p).2) :
    ∃ w', (Instr.storeAt t u v).run P w = .ok () w' ∧ RepS F μ κ ⟨s.tm, ((storeV T (lkH s.hp) t x p).1.1, some (storeV T (lkH s.hp) t x p).1.2) :: s.hp⟩ a w' := by
  cases p with
  | ptr id off =>
    simp only [storeV] at hob ⊢
    cases hb : lkH s.hp id with
    | none => simp [hb] at hob
    | some blk =>
      cases blk with
      | arr k ty es => simp [hb] at hob
      | box ty cells =>
        simp only [hb] at hob ⊢
        obtain ⟨hon, hs, hone, hlen, hfit⟩ := hob
        obtain ⟨⟨cs, hheap, hl, h1⟩, hr⟩ := R.own id _ hb
        simp only [RepV] at hp
        obtain ⟨a', rfl, hv⟩ := hp
        obtain rfl := hv (by show (lkH s.hp id).map _ = _; rw [hb]; rfl)
        have hxL := cells_rep hx hs
        have hcl := hxL.length
        have hll := hl.length
        have hone' := all_one hxL hone
        have hsz : v.cells.size = (T t).size := by rw [← hlen, ← hcl]; simp
        have hrun := run_storeVar (hT t hon) (v := v) hsz (μ id) off ty ⟨cs⟩ w hheap (by simp at hcl ⊢; omega) hone'
        refine ⟨_, by simp only [Instr.storeAt, Instr.sureAddr, Sem.run_bind, Sem.run_pure, Result.andThen_ok]; exact hrun, ?_⟩
        refine writeBlock R (b' := .box ty (over cells off x.cells)) hb rfl (chg_setRow _ _ _) (by simp) (fun c hle hμ hκ hw => ?_)
        refine ⟨overV cs off v.cells.toList, by rw [hw, hμ]; exact setRow_heap w _ _ _ _ _ hheap, ?_, fun z hz => ?_⟩
        · exact (RepL.mono hle _ _ (fun _ _ => trivial) hl).lay (RepL.mono hle _ _ (fun _ _ => trivial) hxL) off
        · unfold overV at hz
          rcases List.mem_append.1 hz with hz | hz
          · rcases List.mem_append.1 hz with hz | hz
            · exact h1 z (List.mem_of_mem_take hz)
            · exact hone' z hz
          · exact h1 z (List.mem_of_mem_drop hz)
  | aptr id i off =>
    simp only [storeV] at hob ⊢
    cases hb : lkH s.hp id with
    | none => simp [hb] at hob
    | some blk =>
      cases blk with
      | box ty cells => simp [hb] at hob
      | arr k ty es =>
        simp only [hb] at hob ⊢
        obtain ⟨⟨cur, hheap, h2, h3, h4, h5, h6, h7⟩, hr⟩ := R.own id _ hb
        simp only [RepV] at hp
        obtain ⟨a', rfl, hv⟩ := hp
        obtain rfl := hv k h4 (by show (lkH s.hp id).map _ = _; rw [hb]; rfl)
        by_cases h0 : off = 0 ∧ (T t).size = k
        · rw [if_pos h0] at hob ⊢
          obtain ⟨hon, hs, helt, hno, hi⟩ := hob
          have hk := eltI_ok hx helt
          have hkl := eltOk_cells hk
          obtain ⟨hfit, R'⟩ := storeElt R hb hi (off := 0) (cs := v.cells.toList) (y := v) (e := x) (by omega) hk (noId'_ok hno) hx
            (fun z hz hkz _ => by
              have hzl := eltOk_cells hkz
              unfold overV
              rw [List.drop_of_length_le (by omega)]; simp) hheap
          have hrun := run_storeVar (hT t hon) (v := v) (by rw [hk.1, h0.2]) (μ id) (i * k + 0) ty cur w hheap (by simpa using hfit) hk.2.1
          rw [h0.1]
          exact ⟨_, by simp only [Instr.storeAt, Instr.sureAddr, Sem.run_bind, Sem.run_pure, Result.andThen_ok]; exact hrun, R'⟩
        · rw [if_neg h0] at hob ⊢
          cases hg : es.getD i .junk with
          | agg l =>
            rw [hg] at hob
            simp only at hob ⊢
            obtain ⟨hon, hs, hlen, hfit0, hi, helt, hno⟩ := hob
            have hxL := cells_rep hx hs
            have hcl := hxL.length
            obtain ⟨y0, hy0, hk0, hc0⟩ := h7.get i hi
            rw [hg] at hy0
            have hy0' := hy0
            simp only [RepV] at hy0'
            obtain ⟨vs, rfl, hl⟩ := hy0'
            have hE : RepV (ctx F μ κ s.hp w) (.agg (over l off x.cells)) (.agg ⟨overV vs off v.cells.toList⟩) := by
              simp only [RepV]
              exact ⟨_, rfl, hl.lay hxL off⟩
            have hk := eltI_ok hE helt
            have hvl : vs.length = k := by have := hk0.1; simpa [Value.cells] using this
            have hll := hl.length
            obtain ⟨hfit, R'⟩ := storeElt R hb hi (off := off) (cs := v.cells.toList) (e := .agg (over l off x.cells)) (by omega) hk (noId'_ok hno) hE
              (fun z hz hkz hcz => by
                have : z = .agg ⟨vs⟩ := by
                  have e1 : ∀ j, j < k → z.cells[j]? = (⟨vs⟩ : Array Value)[j]? := fun j hj => by
                    rw [← hcz j hj]
                    have := hc0 j hj
                    rw [Nat.zero_add] at this
                    exact this
                  have hzk := hkz.1
                  have ez : z.cells = ⟨vs⟩ := by
                    apply Array.ext_getElem?
                    intro j
                    by_cases hj : j < k
                    · exact e1 j hj
                    · rw [Array.getElem?_eq_none (by omega), Array.getElem?_eq_none (by simp; omega)]
                  have hag := hkz.2.2.1
                  have hag0 := hk0.2.2.1
                  rw [← hag0] at hag
                  cases z with
                  | agg cs' => simp only [Value.cells] at ez; rw [ez]
                  | _ => simp [isAggV] at hag
                subst this
                simp [Value.cells]) hheap
            have hone' : ∀ u ∈ v.cells.toList, u.oneCell' = true := fun u hu => hk.2.1 u (List.mem_append.2 (.inl (List.mem_append.2 (.inr hu))))
            have hrun := run_storeVar (hT t hon) (v := v) (by rw [← hlen, ← hcl]; simp) (μ id) (i * k + off) ty cur w hheap (by simpa using hfit) hone'
            exact ⟨_, by simp only [Instr.storeAt, Instr.sureAddr, Sem.run_bind, Sem.run_pure, Result.andThen_ok]; exact hrun, R'⟩
          | _ => rw [hg] at hob; exact hob.elim
  | _ => simp [storeV] at hob

theorem effStore_sound (hT : TOK P T) {t : TypeId} {p x : Operand} (ho : o.op = .store t p x) (hob : (effStore T F.N ops o t p x s).ob) : StepOK P F ops o s (effStore T F.N ops o t p x s) := by
  intro μ κ a w R Q next hn
  unfold effStore at hob hn
  cases hG : (gval s.tm ops o).1 with
  | false =>
    rw [hG] at hob hn
    simp only [cond_false] at hob hn
    rw [gval_wanted R hob.1, hG, hob.2]
    simp only [Bool.false_eq_true, if_false]
    exact hn μ κ _ _ R
  | true =>
    rw [hG] at hob hn
    simp only [cond_true] at hob hn
    obtain ⟨hg, hd, hbp, hbx, hst⟩ := hob
    rw [gval_wanted R hg, hG]
    simp only [if_true]
    refine .inl ?_
    obtain ⟨w', hr, R'⟩ := storeV_run (P := P) hT R (gO_rep R hbx) (gO_rep R hbp) hst
    have hrun : (execOp a.eval o).run P w = .ok .skip w' := by
      simp only [execOp, ho, Sem.run_bind, hr, Result.andThen_ok, Sem.run_pure]
    unfold Oper.wp
    rw [hrun, Oper.upon_skip, hd]
    exact hn μ κ _ _ R'

end
end Go.Ideal

/- Append onto a slice of the frame's own. -/
set_option linter.unusedVariables false
set_option linter.unusedSimpArgs false
namespace Go.Ideal
open Go

/-- The elements of a slice that is appended. -/
def srcV (h : Nat → Option IBlk) (k : Nat) : IV → List IV × Prop
  | .sl k' es => (es, k' = k)
  | .ref id off n _ =>
    match h id with
    | some (.arr k' _ es) => ((es.drop off).take n, k' = k ∧ off + n ≤ es.length)
    | _ => ([], False)
  | .nils => ([], True)
  | _ => ([], False)

def refId : IV → Option Nat
  | .ref id _ _ _ => some id
  | _ => none

def effAppend (T : Nat → TD) (N : Nat) (ops : List Oper) (o : Oper) (t : TypeId) (sx x : Operand) (s : ISt) : Eff :=
  match o.dst with
  | none => { ob := False, tv := [], hv := [] }
  | some d =>
    bif (gval s.tm ops o).1 then
      match gO s.tm sx with
      | .ref id 0 n true =>
        match lkH s.hp id with
        | some (.arr k ty es) =>
          { ob := (gval s.tm ops o).2 ∧ d < N ∧ mentTm d s.tm = false ∧ mentHp d s.hp = false ∧ gB s.tm sx = true ∧ gB s.tm x = true ∧ (T t).on = true ∧ (T t).elem ≠ 0 ∧ (T (T t).elem).on = true ∧ (T t).elem = ty ∧ (T (T t).elem).size = k ∧
              n ≤ es.length ∧ (srcV (lkH s.hp) k (gO s.tm x)).2 ∧ (n + (srcV (lkH s.hp) k (gO s.tm x)).1.length) * (T (T t).elem).bytes ≤ 140737488355328 ∧ 0 < (T (T t).elem).bytes ∧ refId (gO s.tm x) ≠ some id,
            tv := [(d, .ref d 0 (n + (srcV (lkH s.hp) k (gO s.tm x)).1.length) true)],
            hv := [(d, some (.arr k ty (es.take n ++ (srcV (lkH s.hp) k (gO s.tm x)).1))), (id, none)] }
        | _ => { ob := False, tv := [], hv := [] }
      | .nils =>
        { ob := (gval s.tm ops o).2 ∧ d < N ∧ mentTm d s.tm = false ∧ mentHp d s.hp = false ∧ gB s.tm sx = true ∧ gB s.tm x = true ∧ (T t).on = true ∧ (T t).elem ≠ 0 ∧ (T (T t).elem).on = true ∧
              (srcV (lkH s.hp) (T (T t).elem).size (gO s.tm x)).2 ∧ 0 < (srcV (lkH s.hp) (T (T t).elem).size (gO s.tm x)).1.length ∧ (srcV (lkH s.hp) (T (T t).elem).size (gO s.tm x)).1.length * (T (T t).elem).bytes ≤ 140737488355328 ∧ 0 < (T (T t).elem).bytes,
          tv := [(d, .ref d 0 (srcV (lkH s.hp) (T (T t).elem).size (gO s.tm x)).1.length true)],
          hv := [(d, some (.arr (T (T t).elem).size (T t).elem (srcV (lkH s.hp) (T (T t).elem).size (gO s.tm x)).1))] }
      | .sl k0 es0 =>
        { ob := (gval s.tm ops o).2 ∧ d < N ∧ gB s.tm sx = true ∧ gB s.tm x = true ∧ (T t).on = true ∧ (T t).elem ≠ 0 ∧ (T (T t).elem).on = true ∧
              es0.length = 0 ∧ (srcV (lkH s.hp) (T (T t).elem).size (gO s.tm x)).2 ∧ (srcV (lkH s.hp) (T (T t).elem).size (gO s.tm x)).1.length = 0,
          tv := [(d, .sl k0 [])],
          hv := [] }
      | _ => { ob := False, tv := [], hv := [] }
    else skipE o s ops N

section
variable {P : Program} {T : Nat → TD} {F : Fr} {μ κ : Nat → Nat} {s : ISt} {a : Act} {w : World} {ops : List Oper} {o : Oper}

theorem src_ok (R : RepS F μ κ s a w) {k : Nat} {x : IV} {v : Value} (hx : RepV (ctx F μ κ s.hp w) x v) (hp : (srcV (lkH s.hp) k x).2) :
    ∃ ao m cp xs, v = .slice ao m cp ∧ m = (srcV (lkH s.hp) k x).1.length ∧ RepX (ctx F μ κ s.hp w) k (srcV (lkH s.hp) k x).1 xs ∧ noIdL (srcV (lkH s.hp) k x).1 ∧
      ((ao = none ∧ cp = 0 ∧ m = 0) ∨ ∃ ad, ao = some ad ∧ ∀ j u, xs[j]? = some u → w.cell? (ad.add j) = some u) := by
  cases x with
  | sl k' es =>
    simp only [srcV] at hp ⊢
    subst hp
    simp only [RepV] at hx
    obtain ⟨ao, m, cp, rfl, hm, hle, _, han, hno, hr⟩ := hx
    by_cases h0 : 0 < m
    · obtain ⟨b, o, rfl, _, _, hR⟩ := hr h0
      obtain ⟨xs, hX, hc⟩ := hR.toX
      exact ⟨_, m, cp, xs, rfl, hm, hX, hno, .inr ⟨_, rfl, fun j u hu => by rw [Addr.add_off]; exact hc j u hu⟩⟩
    · have he : es = [] := List.length_eq_zero_iff.1 (by omega)
      subst he
      refine ⟨ao, m, cp, [], rfl, hm, by simp [RepX], hno, ?_⟩
      cases ao with
      | none => exact .inl ⟨rfl, han rfl, by omega⟩
      | some ad => exact .inr ⟨ad, rfl, by simp⟩
  | ref id off n full =>
    simp only [srcV] at hp ⊢
    cases hb : lkH s.hp id with
    | none => simp [hb] at hp
    | some blk =>
      cases blk with
      | box ty cells => simp [hb] at hp
      | arr k' ty es =>
        simp only [hb] at hp ⊢
        obtain ⟨rfl, hfit⟩ := hp
        obtain ⟨⟨cur, hheap, h2, h3, h4, h5, h6, h7⟩, hr⟩ := R.own id _ hb
        simp only [RepV] at hx
        obtain ⟨ao, cp, rfl, han, hx⟩ := hx
        obtain ⟨hn, _, _, ha⟩ := hx k' h4 (by show (lkH s.hp id).map _ = _; rw [hb]; rfl)
        have hlen : ((es.drop off).take n).length = n := by simp; omega
        obtain ⟨xs, hX, hc⟩ := ((h7.drop off (by omega)).take n).toX
        refine ⟨ao, n, cp, xs, rfl, hlen.symm, hX, (h6.drop off).take n, ?_⟩
        by_cases h0 : 0 < n
        · refine .inr ⟨_, ha (.inl h0), fun j u hu => ?_⟩
          rw [Addr.add_off]
          have := hc j u hu
          rwa [Nat.zero_add] at this
        · cases ao with
          | none => exact .inl ⟨rfl, han rfl, by omega⟩
          | some ad =>
            refine .inr ⟨ad, rfl, fun j u hu => ?_⟩
            have := hX.length
            rw [hlen] at this
            have hx0 : xs.length = 0 := by rw [this]; have : n = 0 := by omega
                                           subst this; simp
            rw [List.length_eq_zero_iff.1 hx0] at hu
            simp at hu
  | nils =>
    simp only [srcV] at hp ⊢
    simp only [RepV] at hx
    exact ⟨none, 0, 0, [], hx, rfl, by simp [RepX], fun _ => rfl, .inl ⟨rfl, rfl, rfl⟩⟩
  | _ => simp [srcV] at hp

/-- A block r of the frame's own gives way to one named d: in its place, or new. -/
theorem replaceBlock (R : RepS F μ κ s a w) {d r : Nat} {br : IBlk} (hd : d < F.N) (hm1 : mentTm d s.tm = false) (hm2 : mentHp d s.hp = false) (hbr : lkH s.hp r = some br) (hdr : d ≠ r) {w' : World}
    (hw : Chg (fun x => x = μ r) w w') (g cap : Nat) (hg : g = μ r ∨ w.heap.size ≤ g) (blk : IBlk)
    (hblk : ∀ c : Ctx, (ctx F μ κ s.hp w).Le c (fun i => i ≠ d) → c.μ d = g → c.κ d = cap → c.w = w' → RepB c d blk)
    (v : IV) (x : Value) (hv : ∀ c : Ctx, (ctx F μ κ s.hp w).Le c (fun i => i ≠ d) → c.μ d = g → c.κ d = cap → c.sh d = some blk.shape → RepV c v x) :
    ∃ μ' κ', RepS F μ' κ' ⟨(d, v) :: s.tm, (d, some blk) :: (r, none) :: s.hp⟩ (a.put (some d) x) w' := by
  let μ' : Nat → Nat := fun i => if i = d then g else μ i
  let κ' : Nat → Nat := fun i => if i = d then cap else κ i
  have hμd : μ' d = g := if_pos rfl
  have hκd : κ' d = cap := if_pos rfl
  have hμ : ∀ i, i ≠ d → μ' i = μ i := fun i h => if_neg h
  have hκ : ∀ i, i ≠ d → κ' i = κ i := fun i h => if_neg h
  have hlk : ∀ i, lkH ((d, some blk) :: (r, none) :: s.hp) i = if d = i then some blk else if r = i then none else lkH s.hp i := fun i => rfl
  have hlk2 : ∀ i, i ≠ d → lkH ((d, some blk) :: (r, none) :: s.hp) i ≠ none → r ≠ i ∧ lkH s.hp i ≠ none := by
    intro i hi h
    rw [hlk, if_neg (fun e => hi e.symm)] at h
    by_cases hr : r = i
    · rw [if_pos hr] at h; exact absurd rfl h
    · rw [if_neg hr] at h; exact ⟨hr, h⟩
  have hne : ∀ i, i ≠ r → lkH s.hp i ≠ none → μ i ≠ μ r := fun i hi h e => hi (R.inj i r h (by rw [hbr]; simp) e)
  have hlt : ∀ i, lkH s.hp i ≠ none → μ i < w.heap.size := by
    intro i hi
    cases hb : lkH s.hp i with
    | none => exact absurd hb hi
    | some b => exact lt_of_own R hb
  have hle : (ctx F μ κ s.hp w).Le (ctx F μ' κ' ((d, some blk) :: (r, none) :: s.hp) w') (fun i => i ≠ d) := by
    refine ⟨fun i hi => ?_, fun b hb hav => ?_, hw.size, fun b o' hb hav => ?_⟩
    · by_cases hr : r = i
      · left
        show (lkH ((d, some blk) :: (r, none) :: s.hp) i).map _ = none
        rw [hlk, if_neg (fun e => hi e.symm), if_pos hr]; rfl
      · right
        refine ⟨?_, hμ i hi, hκ i hi⟩
        show (lkH ((d, some blk) :: (r, none) :: s.hp) i).map _ = (lkH s.hp i).map _
        rw [hlk, if_neg (fun e => hi e.symm), if_neg hr]
    · rcases hav with hA | ⟨i, hi, rfl⟩
      · exact .inl hA
      · by_cases hid : i = d
        · subst hid
          have hb' : g < w.heap.size := by rw [← hμd]; exact hb
          rcases hg with hg | hg
          · exact .inr ⟨r, by rw [hbr]; simp, by rw [hμd, hg]⟩
          · omega
        · obtain ⟨_, h2⟩ := hlk2 i hid hi
          exact .inr ⟨i, h2, (hμ i hid).symm⟩
    · exact World.cell?_of_block (hw.block b hb (fun e => hav (.inr ⟨r, by rw [hbr]; simp, e.symm⟩)))
  have hownr := (R.own r br hbr).2
  have hchg : Chg F.B0 F.w0 w' := by
    refine R.chg.trans hw (fun _ h => h) (fun x hx he => ?_)
    subst he
    rcases hownr.2 with h | h
    · exact h
    · omega
  have R' : RepS F μ' κ' ⟨s.tm, (d, some blk) :: (r, none) :: s.hp⟩ a w' := by
    refine R.move (fun i => i ≠ d) hchg ?_ ?_ hle (fun i id h => ?_) (fun i h1 h2 => by have := F.hN; exact ⟨if_neg (by omega), if_neg (by omega)⟩)
    · intro i j hi hj hij
      by_cases h1 : i = d
      · by_cases h2 : j = d
        · rw [h1, h2]
        · exfalso
          obtain ⟨hr, hp⟩ := hlk2 j h2 hj
          rw [h1, hμd, hμ j h2] at hij
          have := hlt j hp
          rcases hg with hg | hg
          · exact hne j (fun e => hr e.symm) hp (by rw [← hij, hg])
          · omega
      · by_cases h2 : j = d
        · exfalso
          obtain ⟨hr, hp⟩ := hlk2 i h1 hi
          rw [h2, hμd, hμ i h1] at hij
          have := hlt i hp
          rcases hg with hg | hg
          · exact hne i (fun e => hr e.symm) hp (by rw [hij, hg])
          · omega
        · obtain ⟨_, hp⟩ := hlk2 i h1 hi
          obtain ⟨_, hq⟩ := hlk2 j h2 hj
          rw [hμ i h1, hμ j h2] at hij
          exact R.inj i j hp hq hij
    · intro i b hb
      by_cases h1 : i = d
      · subst h1
        rw [hlk, if_pos rfl] at hb
        injection hb with hb
        subst hb
        refine ⟨hblk _ hle hμd hκd rfl, ?_⟩
        rw [hμd]
        rcases hg with hg | hg
        · rw [hg]; exact hownr
        · exact ⟨fun hA => by have := F.hA _ hA; have := R.chg.size; omega, .inr (Nat.le_trans R.chg.size hg)⟩
      · obtain ⟨hr, hp⟩ := hlk2 i h1 (by rw [hb]; simp)
        rw [hlk, if_neg (fun e => h1 e.symm), if_neg hr] at hb
        obtain ⟨hB, hA⟩ := R.own i b hb
        have hnb := hne i (fun e => hr e.symm) hp
        rw [hμ i h1]
        refine ⟨RepB.mono hle (hμ i h1) (hκ i h1) (hw.block _ (hlt i hp) hnb) (fun o' => World.cell?_of_block (hw.block _ (hlt i hp) hnb)) (fun ty cells hbe i' hi' => ?_) hB, hA⟩
        subst hbe
        rintro rfl
        rw [mentHp_lk hm2 i ty cells hb] at hi'
        cases hi'
    · rintro rfl
      rw [mentTm_lk hm1 i] at h
      cases h
  refine ⟨μ', κ', R'.put (hv _ hle hμd hκd ?_) hd⟩
  show (lkH ((d, some blk) :: (r, none) :: s.hp) d).map _ = _
  rw [hlk, if_pos rfl]; rfl

theorem nextcap_bound {n c b : Nat} (hb : 0 < b) (h : n * b ≤ 140737488355328) (hc : c < n) : Builtin.nextslicecap n c * b ≤ 281474976710656 := by
  have h1 := nextslicecap_le hc
  have h2 : Builtin.nextslicecap n c * b ≤ 2 * n * b := Nat.mul_le_mul_right _ h1
  have h3 : 2 * n * b = 2 * (n * b) := Nat.mul_assoc _ _ _
  omega

theorem ref_rep {c : Ctx} {d n cap g : Nat} (hμ : c.μ d = g) (hκ : c.κ d = cap) (hn : n ≤ cap) : RepV c (.ref d 0 n true) (.slice (some ⟨g, 0, none⟩) n cap) := by
  simp only [RepV]
  exact ⟨_, cap, rfl, by simp, fun k _ _ => ⟨hn, by omega, fun _ => by omega, fun _ => by rw [hμ, Nat.zero_mul]⟩⟩

/-- A block of cells whose first are the elements. -/
theorem arr_rep {c : Ctx} {d k cap g : Nat} {ty : TypeId} {es : List IV} {cur : Array Value} {xs : List Value} (hμ : c.μ d = g) (hκ : c.κ d = cap) (hheap : c.w.heap[g]? = some (.cells cur ty (0, 0)))
    (hsz : cur.size = cap * k) (hcap : cap ≤ maxLen) (hk : 1 ≤ k) (hle : es.length ≤ cap) (hno : noIdL es) (hX : RepX c k es xs) (hcur : ∀ (j : Nat) (u : Value), xs[j]? = some u → cur[j]? = some u) : RepB c d (.arr k ty es) := by
  refine ⟨cur, by rw [hμ]; exact hheap, by rw [hκ]; exact hsz, by rw [hκ]; exact hcap, hk, by rw [hκ]; exact hle, hno, hX.toR (fun j u hu => ?_)⟩
  rw [hμ, Nat.zero_add, cell_of_row _ _ _ _ _ _ hheap]
  exact hcur j u hu

theorem chg_drew_alloc (B : Nat → Prop) (w : World) (o : Obj) : Chg B w (w.drew.alloc o) :=
  ⟨rfl, rfl, rfl, by simp, fun b hb _ => RowKit.Below.heap_alloc w.drew o b hb, Later.of (Nat.le_succ _)⟩

theorem append_get {l l' l'' : List Value} (j : Nat) (u : Value) (h : (l ++ l')[j]? = some u) : (l.toArray ++ l'.toArray ++ l''.toArray)[j]? = some u := by
  have hj := (List.getElem?_eq_some_iff.1 h).1
  have e : (l.toArray ++ l'.toArray ++ l''.toArray)[j]? = (l ++ l' ++ l'')[j]? := by simp
  rw [e, List.getElem?_append_left hj]
  exact h

theorem append_run (hT : TOK P T) (R : RepS F μ κ s a w) {t ty0 : TypeId} (hon : (T t).on = true) (he : (T t).elem ≠ 0) (hoe : (T (T t).elem).on = true) {d id n : Nat} {es : List IV} {v u : Value}
    (hd : d < F.N) (hm1 : mentTm d s.tm = false) (hm2 : mentHp d s.hp = false)
    (hb : lkH s.hp id = some (.arr (T (T t).elem).size (T t).elem es)) (hdid : d ≠ id) (hn : n ≤ es.length) (hs : RepV (ctx F μ κ s.hp w) (.ref id 0 n true) v)
    {x : IV} (hx : RepV (ctx F μ κ s.hp w) x u) (hxm : ∀ d, mentTm d s.tm = false → x.ment d = false) (hp : (srcV (lkH s.hp) (T (T t).elem).size x).2) (hb0 : 0 < (T (T t).elem).bytes)
    (hby : (n + (srcV (lkH s.hp) (T (T t).elem).size x).1.length) * (T (T t).elem).bytes ≤ 140737488355328) (hne : refId x ≠ some id) :
    ∃ y w', (Builtin.append_ #[t, t] ty0 #[v, u]).run P w = .ok y w' ∧ ∃ μ' κ', RepS F μ' κ' ⟨(d, .ref d 0 (n + (srcV (lkH s.hp) (T (T t).elem).size x).1.length) true) :: s.tm,
      (d, some (.arr (T (T t).elem).size (T t).elem (es.take n ++ (srcV (lkH s.hp) (T (T t).elem).size x).1))) :: (id, none) :: s.hp⟩ (a.put (some d) y) w' := by
  have hu := (hT t hon).slice he
  obtain ⟨i, z, hi, hsz, hbytes, hz, helt, hfree⟩ := (hT _ hoe).info
  generalize hk : (T (T t).elem).size = k at *
  generalize hbb : (T (T t).elem).bytes = bb at *
  obtain ⟨ao, m, cp, xs, rfl, hm, hX, hno, hsrc⟩ := src_ok R hx hp
  generalize hes' : (srcV (lkH s.hp) k x).1 = es' at *
  obtain ⟨⟨cur, hheap, h2, h3, h4, h5, h6, h7⟩, hr⟩ := R.own id _ hb
  have hheap' : w.heap[μ id]? = some (.cells cur (T t).elem (0, 0)) := hheap
  have h2' : cur.size = κ id * k := h2
  have h3' : κ id ≤ maxLen := h3
  have h5' : es.length ≤ κ id := h5
  simp only [RepV] at hs
  obtain ⟨a0, c0, rfl, _, hs⟩ := hs
  obtain ⟨hnc, _, hfull, ha0⟩ := hs k h4 (by show (lkH s.hp id).map _ = _; rw [hb]; rfl)
  obtain rfl := ha0 (.inr trivial)
  have hc0 : c0 = κ id := by have h := hfull trivial; rw [Nat.zero_add] at h; exact h
  subst hc0
  rw [Nat.zero_mul]
  obtain ⟨ys, hY, hcY⟩ := h7.toX
  have hYl := hY.length
  have hcY' : ∀ j u, ys[j]? = some u → cur[j]? = some u := fun j u hju => by
    have h1 := hcY j u hju
    rw [Nat.zero_add] at h1
    have h1' : w.cell? ⟨μ id, j, none⟩ = some u := h1
    rwa [cell_of_row _ _ _ _ _ _ hheap'] at h1'
  have hYt := hY.take n hn
  have hXl := hX.length
  have hlen : (es.take n ++ es').length = n + m := by simp; omega
  have hXm : ∀ c : Ctx, (ctx F μ κ s.hp w).Le c (fun i => i ≠ d) → RepX c k (es.take n ++ es') (ys.take (n * k) ++ xs) := fun c hle =>
    (hYt.append hX).mono hle (fun id' h => by
      rintro rfl
      have : IV.mentL id' (es.take n ++ es') = false := noIdL_of (fun q hq => by
        rcases List.mem_append.1 hq with hq | hq
        · exact noIdL_mem (h6.take n) q hq
        · exact noIdL_mem hno q hq) id'
      rw [this] at h; cases h)
  have hnoA : noIdL (es.take n ++ es') := noIdL_of fun q hq => by
    rcases List.mem_append.1 hq with hq | hq
    · exact noIdL_mem (h6.take n) q hq
    · exact noIdL_mem hno q hq
  have htake : (ys.take (n * k)).length = n * k := by
    have : n * k ≤ es.length * k := Nat.mul_le_mul_right _ hn
    rw [List.length_take]; omega
  have hnm : n + m ≤ (n + m) * bb := Nat.le_mul_of_pos_right _ hb0
  rcases hsrc with ⟨rfl, rfl, hm0⟩ | ⟨ad, rfl, hcells⟩
  · -- a nil source: nothing turns
    have hm0' : m = 0 := hm0
    subst hm0'
    have hes0 : es' = [] := List.length_eq_zero_iff.1 (by omega)
    subst hes0
    have hown : w.ownsRow 0 (T t).elem k (.slice (some ⟨μ id, 0, none⟩) n (κ id)) n (cur.toList.take (n * k)) := by
      refine ⟨by simp; have : n * k ≤ κ id * k := Nat.mul_le_mul_right _ hnc; omega, .inr ⟨μ id, κ id, cur, rfl, Nat.zero_le _, hheap', hnc, h3', h2', rfl⟩⟩
    have hrun := run_append_owned_none (P := P) (w := w) 0 t ty0 (T t).elem i k hu hi _ n _ hown
    refine ⟨_, _, hrun, ?_⟩
    obtain ⟨μ', κ', R'⟩ := replaceBlock R hd hm1 hm2 hb hdid (w' := w) (Chg.refl _ _) (μ id) (κ id) (.inl rfl) (.arr k (T t).elem (es.take n ++ []))
      (fun c hle hμ hκ hw => arr_rep hμ hκ (by rw [hw]; exact hheap') h2' h3' h4 (by rw [hlen]; omega) hnoA (hXm c hle) (fun j q hj => by
        have : xs = [] := List.length_eq_zero_iff.1 (by rw [hXl]; simp)
        subst this
        rw [List.append_nil, List.getElem?_take] at hj
        split at hj
        · exact hcY' j q hj
        · cases hj))
      (.ref d 0 (n + 0) true) (.slice (some ⟨μ id, 0, none⟩) n (κ id)) (fun c hle hμ hκ hs => ref_rep hμ hκ hnc)
    exact ⟨μ', κ', R'⟩
  · by_cases hroom : n + m ≤ κ id
    · -- there is room
      have hfit : n * i.size + xs.length ≤ cur.size := by
        rw [hsz, hXl, ← hm, h2', ← Nat.add_mul]; exact Nat.mul_le_mul_right _ hroom
      have hrun := run_append_room (P := P) w t ty0 (T t).elem i hu hi (μ id) n (κ id) cur hheap' ad m cp xs (by rw [hsz, hXl, hm]) hcells (fun u hu => RepX.one (es := es') (xs := xs) hX u hu) hroom hfit
      refine ⟨_, _, hrun, ?_⟩
      rw [hsz] at hfit ⊢
      refine replaceBlock R hd hm1 hm2 hb hdid (chg_setRow _ _ _) (μ id) (κ id) (.inl rfl) (.arr k (T t).elem (es.take n ++ es'))
        (fun c hle hμ hκ hw => arr_rep hμ hκ (by rw [hw]; exact setRow_heap w _ cur _ _ _ hheap') ?_ h3' h4 (by rw [hlen]; omega) hnoA (hXm c hle) (fun j q hj => ?_))
        (.ref d 0 (n + es'.length) true) _ (fun c hle hμ hκ hs => by rw [← hm]; exact ref_rep hμ hκ hroom)
      · simp only [List.size_toArray, List.length_append, List.length_take, List.length_drop, Array.length_toList]; omega
      · rw [List.getElem?_toArray, List.getElem?_append_left (by
          have := (List.getElem?_eq_some_iff.1 hj).1
          rw [List.length_append, htake] at this
          simp only [List.length_append, List.length_take, Array.length_toList]; omega)]
        by_cases hjn : j < n * k
        · rw [List.getElem?_append_left (by rw [htake]; exact hjn), List.getElem?_take, if_pos hjn] at hj
          rw [List.getElem?_append_left (by simp only [List.length_take, Array.length_toList]; omega), List.getElem?_take, if_pos hjn]
          have := hcY' j q hj
          simpa using this
        · rw [List.getElem?_append_right (by rw [htake]; omega), htake] at hj
          have hl2 : (cur.toList.take (n * k)).length = n * k := by simp only [List.length_take, Array.length_toList]; omega
          rw [List.getElem?_append_right (by rw [hl2]; omega), hl2]
          exact hj
    · -- a new row
      have hg : κ id < n + m := by omega
      have hcap := nextcap_bound (n := n + m) hb0 (by rw [hm]; exact hby) hg
      have hYt' : ∀ j q, (ys.take (n * k))[j]? = some q → w.cell? ((⟨μ id, 0, none⟩ : Addr).add j) = some q := fun j q hj => by
        rw [List.getElem?_take] at hj
        split at hj
        · rw [Addr.add_off, Nat.zero_add, cell_of_row _ _ _ _ _ _ hheap']
          exact hcY' j q hj
        · cases hj
      have hrun := run_append_grow (P := P) w t ty0 (T t).elem i z hu hi hz ⟨μ id, 0, none⟩ n (κ id) (ys.take (n * k)) (by rw [hsz, htake]) hYt' ad m cp xs (by rw [hsz, hXl, hm]) hcells hg
        (by rw [← hm] at hby; omega) (by rw [hbytes]; exact hcap)
      refine ⟨_, _, hrun, ?_⟩
      have hge := grownCap_ge w (n + m) (κ id) (T t).elem
      have hlem : grownCap w (n + m) (κ id) (T t).elem ≤ maxLen := grownCap_le_maxLen w (n + m) (κ id) (T t).elem (by rw [← hm] at hby; unfold maxLen; omega)
      have hzs : z.cells.size = k := helt.1
      refine replaceBlock R hd hm1 hm2 hb hdid (chg_drew_alloc _ _ _) w.heap.size (grownCap w (n + m) (κ id) (T t).elem) (.inr (Nat.le_refl _)) (.arr k (T t).elem (es.take n ++ es'))
        (fun c hle hμ hκ hw => arr_rep hμ hκ (by rw [hw]; exact heap_alloc_at w.drew _) ?_ hlem h4 (by rw [hlen]; omega) hnoA (hXm c hle) (fun j q hj => ?_))
        (.ref d 0 (n + es'.length) true) _ (fun c hle hμ hκ hs => by rw [← hm]; exact ref_rep hμ hκ hge)
      · simp only [Array.size_append, List.size_toArray, size_zeroCells, hzs, htake, hXl, ← hm, ← Nat.add_mul]
        congr 1
        omega
      · have := append_get (l'' := (Builtin.zeroCells z.cells (grownCap w (n + m) (κ id) (T t).elem - (n + m))).toList) j q hj
        simpa using this

end
end Go.Ideal
