/- The evaluator of the operations that make nothing: its value and what it asks. -/
import Derived.Test.YtodeicbcacggdaaIdA
set_option linter.unusedVariables false
set_option linter.unusedSimpArgs false
namespace Go.Ideal
open Go

/-- What is known of a type. -/
structure TD where
  on : Bool := true
  size : Nat := 1
  bytes : Nat := 8
  ik : Option IntKind := none
  bl : Bool := false
  st : Bool := false
  offs : List (Nat × Nat) := []
  elem : Nat := 0
  zero : List IV := []
  eqb : Bool := false
  deriving Inhabited

/-- The empty context: nothing is known; what holds here holds in each. -/
def freeOK (l : List IV) (vs : List Value) : Prop := ∀ c, RepL c l vs

def eqL : List IV → List IV → Bool
  | .num _ a :: l, .num _ b :: l' => (a == b) && eqL l l'
  | [], [] => true
  | _, _ => false
def numsOnly : List IV → Bool
  | .num .i64 _ :: l => numsOnly l
  | [] => true
  | _ => false

structure TyOK (P : Program) (t : TypeId) (d : TD) : Prop where
  info : ∃ i z, P.info? t = some i ∧ i.size = d.size ∧ i.bytes = d.bytes ∧ i.zero = some z ∧ EltOk d.size z ∧ freeOK d.zero z.cells.toList
  agg : ∀ w, (isAgg t).run P w = .ok (decide (2 ≤ d.size)) w
  slice : d.elem ≠ 0 → P.underlying t = some (.slice d.elem)
  field : ∀ (i o s : Nat), d.offs[i]? = some (o, s) → ∃ (fs : Array Field) (f : Field), P.underlying t = some (.struct fs) ∧ fs[i]? = some f ∧ f.offset = o ∧ s ≠ 0 ∧ (∀ w, (sizeOf f.type).run P w = .ok s w) ∧ (∀ w, (isAgg f.type).run P w = .ok (decide (2 ≤ s)) w) ∧ fs.size = d.offs.length
  int : ∀ k, d.ik = some k → P.underlying t = some (.int k)
  bool : d.bl = true → P.underlying t = some .bool
  str : d.st = true → P.underlying t = some .string
  places : d.offs ≠ [] → ∃ (fs : Array Field), P.underlying t = some (.struct fs) ∧ ∀ w, (fs.mapM fun (f : Field) => (do pure (f.offset, ← sizeOf f.type) : Sem (Nat × Nat))).run P w = .ok (⟨d.offs⟩ : Array (Nat × Nat)) w
  eqg : d.eqb = true → ∀ (op : BinOp) (x y : Operand) (xs ys : List Int) (w : World), xs.length = d.size → ys.length = d.size →
    (eqGuard op t x y (.agg ⟨xs.map (Value.int .i64)⟩) (.agg ⟨ys.map (Value.int .i64)⟩)).run P w = .ok () w ∧
    (Op.equal t (.agg ⟨xs.map (Value.int .i64)⟩) (.agg ⟨ys.map (Value.int .i64)⟩)).run P w = .ok (decide (xs = ys)) w

theorem TyOK.size {P : Program} {t : TypeId} {d : TD} (h : TyOK P t d) (w : World) : (sizeOf t).run P w = .ok d.size w := by
  obtain ⟨i, z, hi, hs, _⟩ := h.info
  simp [sizeOf, typeInfo, hi, hs]

def TOK (P : Program) (T : Nat → TD) : Prop := ∀ t, (T t).on = true → TyOK P t (T t)

def IV.cells : IV → List IV
  | .agg l => l
  | v => [v]

def ofC : Value → IV
  | .int k n => .num k n
  | .bool b => .bool b
  | .string s => .str s
  | .slice none 0 0 => .nils
  | .pointer none => .nilp
  | .nilIface => .nilI
  | _ => .junk

def strip : IV → IV × Bool
  | .opt b v => (v, b)
  | v => (v, true)

def binV (T : Nat → TD) (op : BinOp) (t : TypeId) : IV → IV → IV × Prop
  | .num k a, .num k' b =>
    match op with
    | .add => (.num k (k.wrap (a + b)), k = k')
    | .sub => (.num k (k.wrap (a - b)), k = k')
    | .mul => (.num k (k.wrap (a * b)), k = k')
    | .quo => (.num k (k.wrap (a.tdiv b)), k = k' ∧ b ≠ 0)
    | .rem => (.num k (a.tmod b), k = k' ∧ b ≠ 0)
    | .xor => (.num k (bits .xor k a b), k = k')
    | .eql => (.bool (a == b), k = k')
    | .neq => (.bool (a != b), k = k')
    | .lss => (.bool (decide (a < b)), k = k')
    | .leq => (.bool (decide (a ≤ b)), k = k')
    | .gtr => (.bool (decide (b < a)), k = k')
    | .geq => (.bool (decide (b ≤ a)), k = k')
    | _ => (.junk, False)
  | .bool a, .bool b =>
    match op with
    | .eql => (.bool (a == b), (T t).on = true ∧ (T t).bl = true)
    | .neq => (.bool (!(a == b)), (T t).on = true ∧ (T t).bl = true)
    | _ => (.junk, False)
  | .agg l, .agg l' =>
    match op with
    | .eql => (.bool (eqL l l'), (T t).on = true ∧ (T t).eqb = true ∧ numsOnly l = true ∧ numsOnly l' = true ∧ l.length = (T t).size ∧ l'.length = (T t).size)
    | .neq => (.bool (!eqL l l'), (T t).on = true ∧ (T t).eqb = true ∧ numsOnly l = true ∧ numsOnly l' = true ∧ l.length = (T t).size ∧ l'.length = (T t).size)
    | _ => (.junk, False)
  | .sl _ es, .nils =>
    match op with
    | .eql => (bif es.isEmpty then .anyB else .bool false, (T t).on = true ∧ (T t).elem ≠ 0)
    | .neq => (bif es.isEmpty then .anyB else .bool true, (T t).on = true ∧ (T t).elem ≠ 0)
    | _ => (.junk, False)
  | .nils, .nils =>
    match op with
    | .eql => (.bool true, (T t).on = true ∧ (T t).elem ≠ 0)
    | .neq => (.bool false, (T t).on = true ∧ (T t).elem ≠ 0)
    | _ => (.junk, False)
  | _, _ => (.junk, False)

/-- A part of k cells of a row of cells, from off on. -/
def partV (s off : Nat) (l : List IV) : IV × Prop :=
  if 2 ≤ s then (.agg ((l.drop off).take s), off + s ≤ l.length) else (l.getD off .junk, off < l.length ∧ s = 1)

def eltV (s k : Nat) (e : IV) (off : Nat) : IV × Prop :=
  if off = 0 ∧ s = k then (e, True) else
  match e with
  | .agg l => partV s off l
  | _ => (.junk, False)

def loadV (T : Nat → TD) (h : Nat → Option IBlk) (t : TypeId) : IV → IV × Prop
  | .ptr id off =>
    match h id with
    | some (.box _ cells) => ((partV (T t).size off cells).1, (partV (T t).size off cells).2 ∧ (T t).on = true)
    | _ => (.junk, False)
  | .eptr k e off => ((eltV (T t).size k e off).1, (eltV (T t).size k e off).2 ∧ (T t).on = true)
  | .aptr id i off =>
    match h id with
    | some (.arr k _ es) => ((eltV (T t).size k (es.getD i .junk) off).1, (eltV (T t).size k (es.getD i .junk) off).2 ∧ i < es.length ∧ (T t).on = true)
    | _ => (.junk, False)
  | _ => (.junk, False)

def faddrV (T : Nat → TD) (h : Nat → Option IBlk) (t : TypeId) (f : Nat) : IV → IV × Prop
  | .ptr id off => (.ptr id (off + ((T t).offs.getD f (0, 0)).1), (T t).on = true ∧ f < (T t).offs.length ∧ (h id).map IBlk.shape = some 0)
  | .eptr k e off => (.eptr k e (off + ((T t).offs.getD f (0, 0)).1), (T t).on = true ∧ f < (T t).offs.length)
  | .aptr id i off => (.aptr id i (off + ((T t).offs.getD f (0, 0)).1), (T t).on = true ∧ f < (T t).offs.length ∧ ∃ k ty es, h id = some (.arr k ty es))
  | _ => (.junk, False)

def iaddrV (T : Nat → TD) (h : Nat → Option IBlk) (t : TypeId) : IV → IV → IV × Prop
  | .sl k es, .num _ i => (.eptr k (es.getD i.toNat .junk) 0, 0 ≤ i ∧ i < es.length ∧ (T t).on = true ∧ (T t).elem ≠ 0 ∧ (T (T t).elem).on = true ∧ (T (T t).elem).size = k)
  | .ref id off n _, .num _ i =>
    match h id with
    | some (.arr k _ es) => (.aptr id (off + i.toNat) 0, 0 ≤ i ∧ i < n ∧ (T t).on = true ∧ (T t).elem ≠ 0 ∧ (T (T t).elem).on = true ∧ (T (T t).elem).size = k)
    | _ => (.junk, False)
  | _, _ => (.junk, False)

def numOf : IV → Option Int
  | .num _ n => some n
  | _ => none

def sliceV (T : Nat → TD) (h : Nat → Option IBlk) (t : TypeId) (x : IV) (lo hi mx : Option IV) : IV × Prop :=
  match x, lo, hi, mx with
  | .sl k es, none, some (.num _ H), none => (.sl k (es.take H.toNat), 0 ≤ H ∧ H ≤ es.length ∧ (T t).on = true ∧ (T t).elem ≠ 0 ∧ (T (T t).elem).on = true ∧ (T (T t).elem).size = k)
  | .sl k es, some (.num _ L), none, none => (.sl k (es.drop L.toNat), 0 ≤ L ∧ L ≤ es.length ∧ (T t).on = true ∧ (T t).elem ≠ 0 ∧ (T (T t).elem).on = true ∧ (T (T t).elem).size = k)
  | .sl k es, some (.num _ L), some (.num _ H), none => (.sl k ((es.take H.toNat).drop L.toNat), 0 ≤ L ∧ L ≤ H ∧ H ≤ es.length ∧ (T t).on = true ∧ (T t).elem ≠ 0 ∧ (T (T t).elem).on = true ∧ (T (T t).elem).size = k)
  | .sl k es, none, some (.num _ H), some (.num _ M) => (.sl k (es.take H.toNat), 0 ≤ H ∧ H ≤ M ∧ M ≤ es.length ∧ (T t).on = true ∧ (T t).elem ≠ 0 ∧ (T (T t).elem).on = true ∧ (T (T t).elem).size = k)
  | .ref id off n full, none, some (.num _ H), none =>
    match h id with
    | some (.arr k _ _) => (.ref id off H.toNat full, 0 ≤ H ∧ H ≤ n ∧ (T t).on = true ∧ (T t).elem ≠ 0 ∧ (T (T t).elem).on = true ∧ (T (T t).elem).size = k)
    | _ => (.junk, False)
  | .ref id off n full, some (.num _ L), none, none =>
    match h id with
    | some (.arr k _ _) => (.ref id (off + L.toNat) (n - L.toNat) full, 0 ≤ L ∧ L ≤ n ∧ (T t).on = true ∧ (T t).elem ≠ 0 ∧ (T (T t).elem).on = true ∧ (T (T t).elem).size = k)
    | _ => (.junk, False)
  | .ref id off n _, none, some (.num _ H), some (.num _ M) =>
    match h id with
    | some (.arr k _ _) => (.ref id off H.toNat false, 0 ≤ H ∧ H ≤ M ∧ M ≤ n ∧ (T t).on = true ∧ (T t).elem ≠ 0 ∧ (T (T t).elem).on = true ∧ (T (T t).elem).size = k)
    | _ => (.junk, False)
  | .nils, none, some (.num _ H), none => (.nils, H = 0 ∧ (T t).on = true ∧ (T t).elem ≠ 0 ∧ (T (T t).elem).on = true)
  | .nils, none, some (.num _ H), some (.num _ M) => (.nils, H = 0 ∧ M = 0 ∧ (T t).on = true ∧ (T t).elem ≠ 0 ∧ (T (T t).elem).on = true)
  | .nils, some (.num _ L), none, none => (.nils, L = 0 ∧ (T t).on = true ∧ (T t).elem ≠ 0 ∧ (T (T t).elem).on = true)
  | _, _, _, _ => (.junk, False)

def lenV (T : Nat → TD) (h : Nat → Option IBlk) (t : TypeId) : IV → IV × Prop
  | .sl _ es => (.num .i64 es.length, (T t).on = true ∧ (T t).elem ≠ 0)
  | .ref _ _ n _ => (.num .i64 n, (T t).on = true ∧ (T t).elem ≠ 0)
  | .nils => (.num .i64 0, (T t).on = true ∧ (T t).elem ≠ 0)
  | .str s => (.num .i64 s.size, (T t).on = true ∧ (T t).st = true)
  | _ => (.junk, False)

/-- cs laid over l from o on. -/
def over (l : List IV) (o : Nat) (cs : List IV) : List IV := l.take o ++ cs ++ l.drop (o + cs.length)

def solid : IV → Bool
  | .junk | .opt _ _ | .tup _ => false
  | _ => true

def buildL (offs : List (Nat × Nat)) : List IV → List (Nat × IV) → List IV × Prop
  | l, [] => (l, True)
  | l, (i, x) :: r =>
    let q := buildL offs (over l (offs.getD i (0, 0)).1 x.cells) r
    (q.1, i < offs.length ∧ solid x = true ∧ x.cells.length = (offs.getD i (0, 0)).2 ∧ (offs.getD i (0, 0)).1 + x.cells.length ≤ l.length ∧ q.2)

/-- One operation that makes nothing, at operands g and blocks h: its value, and what it asks. -/
def pureV (T : Nat → TD) (g : Operand → IV) (h : Nat → Option IBlk) : Op → IV × Prop
  | .move x => (g x, True)
  | .assign x => (g x, True)
  | .binOp op t x y _ => binV T op t (g x) (g y)
  | .unOp .neg _ x => (match g x with | .num k a => (.num k (k.wrap (-a)), True) | _ => (.junk, False))
  | .unOp .not _ x => (match g x with | .bool b => (.bool (!b), True) | _ => (.junk, False))
  | .convert s d x => (match g x, (T d).ik with | .num _ n, some k => (.num k (k.wrap n), (T d).on = true ∧ (T s).on = true ∧ (T s).ik.isSome = true) | _, _ => (.junk, False))
  | .load t x => loadV T h t (g x)
  | .fieldAddr t x f => faddrV T h t f (g x)
  | .field t x f => (match g x with | .agg l => ((partV ((T t).offs.getD f (0, 0)).2 ((T t).offs.getD f (0, 0)).1 l).1, (partV ((T t).offs.getD f (0, 0)).2 ((T t).offs.getD f (0, 0)).1 l).2 ∧ (T t).on = true ∧ f < (T t).offs.length) | _ => (.junk, False))
  | .indexAddr t x i => iaddrV T h t (g x) (g i)
  | .slice t x lo hi mx => sliceV T h t (g x) (lo.map g) (hi.map g) (mx.map g)
  | .extract x i => (match g x with | .tup l => (l.getD i .junk, i < l.length) | _ => (.junk, False))
  | .build t parts =>
    let q := buildL (T t).offs (T t).zero (parts.toList.map fun p => (p.1, g p.2))
    (.agg q.1, q.2 ∧ (T t).on = true ∧ (T t).offs ≠ [])
  | .makeFunc (.func f) fi ca => (.clo f (ca.toList.map g), fi = #[])
  | .nilCheck x => (match g x with | .ptr id off => (.ptr id off, (h id).map IBlk.shape = some 0) | _ => (.junk, False))
  | .call { callee := .builtin .len, args, argTypes } => (match args.toList, argTypes.toList with | [x], [t] => lenV T h t (g x) | _, _ => (.junk, False))
  | .call { callee := .builtin .cap, args, argTypes } => (match args.toList, argTypes.toList with | [x], [t] => (match g x with | .nils => (.num .i64 0, (T t).on = true ∧ (T t).elem ≠ 0) | _ => (.junk, False)) | _, _ => (.junk, False))
  | .call { callee := .builtin .max, args, .. } => (match args.toList with | [x, y] => (match g x, g y with | .num k a, .num k' b => (.num k (max a b), k = k') | _, _ => (.junk, False)) | _ => (.junk, False))
  | .call { callee := .builtin .min, args, .. } => (match args.toList with | [x, y] => (match g x, g y with | .num k a, .num k' b => (.num k (min a b), k = k') | _, _ => (.junk, False)) | _ => (.junk, False))
  | _ => (.junk, False)

end Go.Ideal
