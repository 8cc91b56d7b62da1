/- Calls that hand blocks over and back: the caller's side. -/
import Derived.Test.YtodeicbcacggdaaIdSa
set_option linter.unusedVariables false
set_option linter.unusedSimpArgs false
namespace Go.Ideal
open Go

def sm : List (Nat × IBlk) → List (Nat × Option IBlk)
  | [] => []
  | (i, b) :: l => (i, some b) :: sm l

/-- A contract with blocks: which arguments are lent by value; what it asks; what it gives. -/
structure HSpec where
  mask : List Bool
  pre : List IV → List (Nat × IBlk) → Prop
  val : List IV → List (Nat × IBlk) → IV
  hval : List IV → List (Nat × IBlk) → List (Nat × IBlk)

def HOK (P : Program) (H : List (Nat × HSpec)) : Prop :=
  ∀ f sp, (f, sp) ∈ H → (∀ args hp, sp.pre args hp → HCall P f args (sm hp) (sp.val args hp) (sm (sp.hval args hp))) ∧ Enters P f

def lkHS : List (Nat × HSpec) → Nat → Option HSpec
  | [], _ => none
  | (j, s) :: l, f => if j = f then some s else lkHS l f

def idsB : Option IBlk → List Nat
  | some (.box _ cells) => idsL cells
  | _ => []
def addIds : List Nat → List Nat → List Nat
  | seen, [] => seen
  | seen, i :: l => addIds (bif seen.contains i then seen else seen ++ [i]) l
def flatIds (h : Nat → Option IBlk) : List Nat → List Nat
  | [] => []
  | i :: l => idsB (h i) ++ flatIds h l
def reach (h : Nat → Option IBlk) : Nat → List Nat → List Nat
  | 0, ids => ids
  | n + 1, ids => reach h n (addIds ids (flatIds h ids))

def posn : List Nat → Nat → Nat → Nat
  | [], _, _ => 1999
  | i :: l, b, id => if i = id then b else posn l (b + 1) id

mutual
def renV (r : Nat → Nat) : IV → IV
  | .agg l => .agg (renL r l)
  | .tup l => .tup (renL r l)
  | .clo g l => .clo g (renL r l)
  | .opt b x => .opt b (renV r x)
  | .ptr i o => .ptr (r i) o
  | .aptr i j o => .aptr (r i) j o
  | .ref i o n f => .ref (r i) o n f
  | x => x
def renL (r : Nat → Nat) : List IV → List IV
  | [] => []
  | x :: l => renV r x :: renL r l
end
def renB (r : Nat → Nat) : IBlk → IBlk
  | .box ty cells => .box ty (renL r cells)
  | .arr k ty es => .arr k ty es
def renH (r : Nat → Nat) : List (Nat × IBlk) → List (Nat × IBlk)
  | [] => []
  | (i, b) :: l => (r i, renB r b) :: renH r l
def numB (h : Nat → Option IBlk) (r : Nat → Nat) : Nat → List Nat → List (Nat × IBlk)
  | _, [] => []
  | b, i :: l => match h i with
    | some blk => (b, renB r blk) :: numB h r (b + 1) l
    | none => numB h r (b + 1) l

def lendM (h : Nat → Option IBlk) : List Bool → List IV → List IV
  | true :: m, x :: l => lendV h x :: lendM h m l
  | false :: m, x :: l => x :: lendM h m l
  | [], l => l
  | _, [] => []
def allHere (h : Nat → Option IBlk) : List Nat → Prop
  | [] => True
  | i :: l => (h i).isSome = true ∧ allHere h l
def lentM (h : Nat → Option IBlk) : List Bool → List IV → Prop
  | true :: m, x :: l => lent h x ∧ allHere h (idsV x) ∧ idsV (lendV h x) = [] ∧ lentM h m l
  | false :: m, x :: l => lentM h m l
  | _, _ => True
/-- The ids of what is lent. -/
def lentI : List Bool → List IV → List Nat
  | true :: m, x :: l => idsV x ++ lentI m l
  | false :: m, x :: l => lentI m l
  | _, _ => []

def fwd (ids : List Nat) (j : Nat) : Nat := ids.getD (j - 1000) 0
def bk (ids : List Nat) (base j : Nat) : Nat := if 1000 ≤ j then ids.getD (j - 1000) 0 else base + j
def bwd (ids : List Nat) (base id : Nat) : Nat := bif ids.contains id then posn ids 1000 id else id - base
def nones : List Nat → List (Nat × Option IBlk)
  | [] => []
  | i :: l => (i, none) :: nones l

def keyOK (s : ISt) (ids : List Nat) (base : Nat) : List (Nat × IBlk) → Prop
  | [] => True
  | (id, b) :: l => (bif ids.contains id then (fwd ids (bwd ids base id) = id ∧ 1000 ≤ bwd ids base id ∧ bwd ids base id < 2000 ∧ (lkH s.hp id).map IBlk.shape = some b.shape)
      else (2000 ≤ id ∧ mentTm id s.tm = false ∧ mentHp id s.hp = false ∧ lkH s.hp id = none)) ∧ keyOK s ids base l

mutual
/-- A value that holds nothing of foreign memory by value. -/
def noSl : IV → Bool
  | .sl _ _ => false
  | .eptr _ _ _ => false
  | .agg l => noSlL l
  | .tup l => noSlL l
  | .clo _ l => noSlL l
  | .opt _ x => noSl x
  | _ => true
def noSlL : List IV → Bool
  | [] => true
  | x :: l => noSl x && noSlL l
end
def flatBs : List (Nat × IBlk) → Bool
  | [] => true
  | (_, .box _ l) :: r => noSlL l && flatBs r
  | (_, .arr _ _ l) :: r => noSlL l && flatBs r

def subHp (h : Nat → Option IBlk) : List Nat → List (Nat × Option IBlk)
  | [] => []
  | i :: l => (i, h i) :: subHp h l

/-- The parts of a call with blocks. -/
structure HC where
  as : List IV
  ids : List Nat
  base : Nat
  cargs : List IV
  chp : List (Nat × IBlk)
  v : IV
  hp : List (Nat × IBlk)

def mkHC1 (sp : HSpec) (o : Oper) (s : ISt) (all as : List IV) (ids : List Nat) (cargs : List IV) (chp : List (Nat × IBlk)) : Eff :=
  let base := 2000 + 16 * o.dst.getD 0
  let v := renV (bk ids base) (sp.val cargs chp)
  let hv := renH (bk ids base) (sp.hval cargs chp)
  { ob := lentM (lkH s.hp) sp.mask all ∧ allHere (lkH s.hp) ids ∧ (lentI sp.mask all).all (fun i => !ids.contains i) = true ∧
      SLe0 (fwd ids) ⟨enumT 0 as, subHp (lkH s.hp) ids⟩ ⟨enumT 0 cargs, sm chp⟩ ∧ sp.pre cargs chp ∧
      SLe0 (bwd ids base) ⟨[(0, sp.val cargs chp)], sm (sp.hval cargs chp)⟩ ⟨[(0, v)], sm hv⟩ ∧ keyOK s ids base hv ∧
      (lentI sp.mask all = [] ∨ noSl v = true ∧ flatBs hv = true),
    tv := setD o (wrapG o true v), hv := sm hv ++ nones ids }

def mkHC0 (sp : HSpec) (o : Oper) (s : ISt) (all as : List IV) (ids : List Nat) : Eff :=
  mkHC1 sp o s all as ids (renL (posn ids 1000) as) (numB (lkH s.hp) (posn ids 1000) 1000 ids)

def effH (sp : HSpec) (N : Nat) (ops : List Oper) (o : Oper) (fx : Operand) (args : List Operand) (s : ISt) : Eff :=
  bif (gval s.tm ops o).1 then
    let all := callArgs s.tm fx args
    let as := lendM (lkH s.hp) sp.mask all
    let E := mkHC0 sp o s all as (reach (lkH s.hp) 3 (addIds [] (idsL as)))
    { ob := (gval s.tm ops o).2 ∧ dstOK N o ∧ allB s.tm (fx :: args) ∧ (∃ g caps, gO s.tm fx = .clo g caps) ∧ E.ob, tv := E.tv, hv := E.hv }
  else skipE o s ops N

end Go.Ideal
