/- Calls, loops, regions that draw an order; the rules that a rewriting can run; what came in. -/
import Derived.Test.YtiadicmnbjaknaaCa
import Derived.Lib.AppendZeros
import Derived.IntWalk
import Derived.Below
import Derived.ChangeArms
import Derived.ChangeSame
import Derived.Deep.Slices

/- Append as an operation; calls of functions that make no use of the frame's own blocks. -/
set_option linter.unusedVariables false
set_option linter.unusedSimpArgs false
namespace Go.Ideal
open Go

section
variable {P : Program} {T : Nat → TD} {F : Fr} {μ κ : Nat → Nat} {s : ISt} {a : Act} {w : World} {ops : List Oper} {o : Oper}

theorem append_nils (hT : TOK P T) (R : RepS F μ κ s a w) {t ty0 : TypeId} (hon : (T t).on = true) (he : (T t).elem ≠ 0) (hoe : (T (T t).elem).on = true) {d : Nat} {u : Value}
    (hd : d < F.N) (hm1 : mentTm d s.tm = false) (hm2 : mentHp d s.hp = false)
    {x : IV} (hx : RepV (ctx F μ κ s.hp w) x u) (hp : (srcV (lkH s.hp) (T (T t).elem).size x).2) (hb0 : 0 < (T (T t).elem).bytes) (hpos : 0 < (srcV (lkH s.hp) (T (T t).elem).size x).1.length)
    (hby : (srcV (lkH s.hp) (T (T t).elem).size x).1.length * (T (T t).elem).bytes ≤ 140737488355328) :
    ∃ y w', (Builtin.append_ #[t, t] ty0 #[.slice none 0 0, u]).run P w = .ok y w' ∧ ∃ μ' κ', RepS F μ' κ' ⟨(d, .ref d 0 (srcV (lkH s.hp) (T (T t).elem).size x).1.length true) :: s.tm,
      (d, some (.arr (T (T t).elem).size (T t).elem (srcV (lkH s.hp) (T (T t).elem).size x).1)) :: s.hp⟩ (a.put (some d) y) w' := by
  have hu := (hT t hon).slice he
  obtain ⟨i, z, hi, hsz, hbytes, hz, helt, hfree⟩ := (hT _ hoe).info
  have hk1 := (hT _ hoe).pos
  generalize hk : (T (T t).elem).size = k at *
  generalize hbb : (T (T t).elem).bytes = bb at *
  obtain ⟨ao, m, cp, xs, rfl, hm, hX, hno, hsrc⟩ := src_ok R hx hp
  generalize hes' : (srcV (lkH s.hp) k x).1 = es' at *
  have hXl := hX.length
  have hnm : m ≤ m * bb := Nat.le_mul_of_pos_right _ hb0
  rcases hsrc with ⟨rfl, rfl, hm0⟩ | ⟨ad, rfl, hcells⟩
  · omega
  · have hrun := run_append_nil (P := P) w t ty0 (T t).elem i z hu hi hz ad m cp xs (by rw [hsz, hXl, hm]) hcells (by omega) (by rw [← hm] at hby; omega) (by rw [hbytes, hm]; omega)
    refine ⟨_, _, hrun, ?_⟩
    have hge := grownCap_ge w m 0 (T t).elem
    have hlem : grownCap w m 0 (T t).elem ≤ maxLen := grownCap_le_maxLen w m 0 (T t).elem (by rw [← hm] at hby; unfold maxLen; omega)
    have hzs : z.cells.size = k := helt.1
    refine newBlock R hd hm1 hm2 (w1 := w.drew) (Chg.refl _ _).drew rfl (grownCap w m 0 (T t).elem) (.arr k (T t).elem es')
      (fun c hle hμ hκ hw => arr_rep hμ hκ (by rw [hw]; exact heap_alloc_at w.drew _) ?_ hlem hk1 (by omega) hno (hX.mono hle (fun id' h => by rw [hno id'] at h; cases h)) (fun j q hj => ?_))
      (.ref d 0 es'.length true) _ (fun c hle hμ hκ hs => by rw [← hm]; exact ref_rep hμ hκ hge)
    · simp only [Array.size_append, List.size_toArray, size_zeroCells, hzs, hXl, ← hm, ← Nat.add_mul]
      congr 1
      omega
    · have := append_get (l := []) (l'' := (Builtin.zeroCells z.cells (grownCap w m 0 (T t).elem - m)).toList) j q (by simpa using hj)
      simpa using this

theorem run_append_none (w : World) (t ty e : TypeId) (i : TypeInfo) (ht : P.underlying t = some (.slice e)) (hi : P.info? e = some i) (base base' : Option Addr) (cap cap' : Nat) :
    (Builtin.append_ #[t, t] ty #[.slice base 0 cap, .slice base' 0 cap']).run P w = .ok (.slice base 0 cap) w := by
  have hl : ∀ w' : World, (Builtin.lenOf (.slice base' 0 cap')).run P w' = .ok 0 w' := fun _ => rfl
  have hf : (Builtin.firstCells i.size 0 (.slice base' 0 cap')).run P w = .ok #[] w := by
    cases base' with
    | none => rfl
    | some a => exact run_firstCells_some (P := P) w i.size 0 a 0 cap' [] (by simp) (by simp)
  cases base <;> simp [Builtin.append_, run_underlying ht, sizeOf, typeInfo, hi, hl, hf, storeCells]

theorem effAppend_sound (hT : TOK P T) {t : TypeId} {sx x : Operand} (ho : o.op = .call { callee := .builtin .append, args := #[sx, x], argTypes := #[t, t] })
    (hob : (effAppend T F.N ops o t sx x s).ob) : StepOK P F ops o s (effAppend T F.N ops o t sx x s) := by
  intro μ κ a w R Q next hn
  unfold effAppend at hob hn
  cases hd : o.dst with
  | none => rw [hd] at hob; exact hob.elim
  | some d =>
    simp only [hd] at hob hn
    cases hG : (gval s.tm ops o).1 with
    | false =>
      rw [hG] at hob hn
      simp only [cond_false] at hob hn
      rw [← hd]
      exact skipE_sound (P := P) R hob hG Q next hn
    | true =>
      rw [hG] at hob hn
      simp only [cond_true] at hob hn
      split at hob
      · rename_i id n hs
        cases hb : lkH s.hp id with
        | none => rw [hb] at hob; exact hob.elim
        | some blk =>
          cases blk with
          | box ty cells => rw [hb] at hob; exact hob.elim
          | arr k ty es =>
            rw [hb] at hob
            simp only at hob
            obtain ⟨hg, hdN, hm1, hm2, hgs, hgx, hon, he, hoe, hty, hsz, hle, hsrc, hby, hb0, hne⟩ := hob
            subst hty hsz
            have hrs := gO_rep R hgs
            rw [hs] at hrs
            have hdid : d ≠ id := by
              rintro rfl
              have := gO_ment hm1 sx
              rw [hs] at this
              simp [IV.ment] at this
            obtain ⟨y, w', hrun, μ', κ', R'⟩ := append_run (ty0 := o.type) hT R hon he hoe hdN hm1 hm2 hb hdid hle hrs (gO_rep R hgx) (fun d h => gO_ment h x) hsrc hb0 hby hne
            rw [gval_wanted R hg, hG]
            simp only [if_true]
            refine .inl ?_
            have hexec : (execOp a.eval o).run P w = .ok (.value y) w' := by
              simp only [execOp, ho, resolve, invoke, builtin, Sem.run_bind, Sem.run_pure, Result.andThen_ok, List.map_toArray, List.map_cons, List.map_nil, hrun]
            unfold Oper.wp
            rw [hexec, Oper.upon_value, hd]
            refine hn μ' κ' _ _ ?_
            simp only [hs, hb]
            exact R'
      · rename_i hs
        obtain ⟨hg, hdN, hm1, hm2, hgs, hgx, hon, he, hoe, hsrc, hpos, hby, hb0⟩ := hob
        have hrs := gO_rep R hgs
        rw [hs] at hrs
        simp only [RepV] at hrs
        obtain ⟨y, w', hrun, μ', κ', R'⟩ := append_nils (ty0 := o.type) hT R hon he hoe hdN hm1 hm2 (gO_rep R hgx) hsrc hb0 hpos hby
        rw [gval_wanted R hg, hG]
        simp only [if_true]
        refine .inl ?_
        have hexec : (execOp a.eval o).run P w = .ok (.value y) w' := by
          simp only [execOp, ho, resolve, invoke, builtin, Sem.run_bind, Sem.run_pure, Result.andThen_ok, List.map_toArray, List.map_cons, List.map_nil, hrs, hrun]
        unfold Oper.wp
        rw [hexec, Oper.upon_value, hd]
        refine hn μ' κ' _ _ ?_
        simp only [hs]
        exact R'
      · rename_i k0 es0 hs
        obtain ⟨hg, hdN, hgs, hgx, hon, he, hoe, h0, hsrc, hx0⟩ := hob
        have hrs := gO_rep R hgs
        rw [hs] at hrs
        obtain rfl := List.length_eq_zero_iff.1 h0
        have hrs2 := hrs
        simp only [RepV] at hrs
        obtain ⟨ao, m, cp, hv, hm, _⟩ := hrs
        obtain ⟨ao', m', cp', xs, hv', hm', _⟩ := src_ok R (gO_rep R hgx) hsrc
        rw [hx0] at hm'
        simp only [List.length_nil] at hm
        subst hm hm'
        obtain ⟨i, z, hi, _⟩ := (hT _ hoe).info
        have hrun := run_append_none (P := P) w t o.type (T t).elem i ((hT t hon).slice he) hi ao ao' cp cp'
        rw [gval_wanted R hg, hG]
        simp only [if_true]
        refine .inl ?_
        have hexec : (execOp a.eval o).run P w = .ok (.value (.slice ao 0 cp)) w := by
          simp only [execOp, ho, resolve, invoke, builtin, Sem.run_bind, Sem.run_pure, Result.andThen_ok, List.map_toArray, List.map_cons, List.map_nil, hv, hv', hrun]
        unfold Oper.wp
        rw [hexec, Oper.upon_value, hd]
        refine hn μ κ _ _ ?_
        simp only [hs]
        rw [hv] at hrs2
        exact R.put hrs2 hdN
      · exact hob.elim

/-- append onto nil, of so many zeros ('append(nil, make(..)...)'). -/
def effZeros (T : Nat → TD) (N : Nat) (ops : List Oper) (o : Oper) (t t' : TypeId) (sx x : Operand) (s : ISt) : Eff :=
  match gO s.tm sx, gO s.tm x with
  | .nils, .num _ n =>
    effNew N ops o s (.arr (T (T t).elem).size (T t).elem (List.replicate n.toNat (zeroElt (T (T t).elem)))) (fun d => .ref d 0 n.toNat true)
      ((T t).on = true ∧ (T t).elem ≠ 0 ∧ (T (T t).elem).on = true ∧ (T t').on = true ∧ (T t').ik.isSome = true ∧ gB s.tm sx = true ∧ gB s.tm x = true ∧ 0 < n ∧ n * (T (T t).elem).bytes ≤ 140737488355328 ∧ n ≤ 140737488355328 ∧ noId' (zeroElt (T (T t).elem)) = true)
  | _, _ => { ob := False, tv := [], hv := [] }

theorem zeroCells_get {zc : Array Value} {n q : Nat} (hq : q < n * zc.size) (hz : 0 < zc.size) : (Builtin.zeroCells zc n)[q]? = zc[q % zc.size]? := by
  unfold Builtin.zeroCells
  have hlt : q % zc.size < zc.size := Nat.mod_lt _ hz
  rw [Array.getElem?_map]
  have : (Array.range (n * zc.size))[q]? = some q := by
    rw [Array.getElem?_eq_getElem (by simpa using hq)]
    simp
  rw [this]
  simp [hlt]

theorem effZeros_sound (hT : TOK P T) {t t' : TypeId} {sx x : Operand} (ho : o.op = .call { callee := .builtin .append, args := #[sx, x], argTypes := #[t, t'] })
    (hob : (effZeros T F.N ops o t t' sx x s).ob) : StepOK P F ops o s (effZeros T F.N ops o t t' sx x s) := by
  unfold effZeros at hob ⊢
  split at hob
  · rename_i kn n eS eX
    refine effNew_sound hob ?_
    rintro d hd hG ⟨hon, he, hoe, hon', hik, hbs, hbx, h0, hby, hle, hno⟩ μ κ a w R hm1 hm2
    have hu := (hT t hon).slice he
    obtain ⟨kt, hkt⟩ := Option.isSome_iff_exists.1 hik
    have hut := (hT t' hon').int kt hkt
    obtain ⟨i, z, hi, hsz, hbytes, hz, helt, hfree⟩ := (hT _ hoe).info
    have hk1 : 1 ≤ (T (T t).elem).size := (hT _ hoe).pos
    have hs := gO_rep R hbs
    have hx := gO_rep R hbx
    rw [eS] at hs
    rw [eX] at hx
    simp only [RepV] at hs hx
    obtain ⟨m, rfl⟩ : ∃ m : Nat, n = (m : Int) := ⟨n.toNat, by omega⟩
    have hby' : m * i.bytes ≤ 281474976710656 := by
      rw [hbytes]
      have : ((m * (T (T t).elem).bytes : Nat) : Int) ≤ 140737488355328 := by rw [Int.natCast_mul]; exact hby
      omega
    have hrun := Lib.run_append_nil_zeros (P := P) w t t' o.type (T t).elem i z kn kt hu hut hi hz m (by omega) (by rw [hsz]; omega) (by omega) hby'
    have hzs : z.cells.size = (T (T t).elem).size := helt.1
    have hge := grownCap_ge w m 0 (T t).elem
    have hlem : grownCap w m 0 (T t).elem ≤ maxLen := grownCap_le_maxLen w m 0 (T t).elem (by unfold maxLen; omega)
    refine ⟨.slice (some ⟨w.heap.size, 0, none⟩) m (grownCap w m 0 (T t).elem), .cells (Builtin.zeroCells z.cells m ++ Builtin.zeroCells z.cells (grownCap w m 0 (T t).elem - m)) (T t).elem, w.drew, grownCap w m 0 (T t).elem, ?_, (Chg.refl _ _).drew, rfl, ?_, ?_⟩
    · simp only [execOp, ho, resolve, invoke, builtin, Sem.run_bind, Sem.run_pure, Result.andThen_ok, List.map_toArray, List.map_cons, List.map_nil, hs, hx, hrun]
    · intro c' hle' hμ hκ hw
      have hheap : c'.w.heap[c'.μ d]? = some (.cells (Builtin.zeroCells z.cells m ++ Builtin.zeroCells z.cells (grownCap w m 0 (T t).elem - m)) (T t).elem (0, 0)) := by rw [hw, hμ]; exact heap_alloc_at w.drew _
      refine ⟨_, hheap, ?_, by rw [hκ]; exact hlem, hk1, by rw [hκ]; simp; omega, ?_, ?_⟩
      · rw [hκ, Array.size_append, size_zeroCells, size_zeroCells, hzs, ← Nat.add_mul]
        congr 1
        omega
      · exact noIdL_of fun x hx => by rw [List.eq_of_mem_replicate hx]; exact noId'_ok hno
      · have hzr : RepV c' (zeroElt (T (T t).elem)) z := zeroElt_rep helt hfree
        have := RepR_replicate (b := c'.μ d) hzr helt m 0 (fun q hq => by
          rw [Nat.zero_add] at hq
          rw [cell_of_row _ _ _ _ _ _ hheap, ← hzs, Array.getElem?_append_left (by rw [size_zeroCells, hzs]; exact hq)]
          exact zeroCells_get (by rw [hzs]; exact hq) (by omega))
        simpa using this
    · intro c' hle' hμ hκ hs'
      simp only [RepV]
      refine ⟨_, _, rfl, by simp, fun k' hk' hs'' => ⟨by simp; omega, by rw [hκ]; omega, fun _ => by rw [hκ]; omega, fun _ => by rw [hμ]; simp⟩⟩
  · exact hob.elim

end

/-! ### calls -/

/-- Where no id lives. -/
def bare (A : Nat → Prop) (w : World) : Ctx := ⟨fun i => i, fun i => i, fun _ => none, A, w⟩

/-- A function that leaves all that was there: called with these, it returns that. -/
def ICall (P : Program) (f : FuncId) (args : List IV) (v : IV) : Prop :=
  ∀ (A : Nat → Prop) (w : World) (as : List Value), (∀ b, A b → b < w.heap.size) → RepL (bare A w) args as →
    Calls P f ⟨as⟩ w fun e w' => ∃ x, e = .returned x ∧ Chg (fun _ => False) w w' ∧ RepV (bare A w') v x

/-- The same, and what it returns lies in memory that was not there before. -/
def ICallF (P : Program) (f : FuncId) (args : List IV) (v : IV) : Prop :=
  ∀ (A : Nat → Prop) (w : World) (as : List Value), (∀ b, A b → b < w.heap.size) → RepL (bare A w) args as →
    Calls P f ⟨as⟩ w fun e w' => ∃ x, e = .returned x ∧ Chg (fun _ => False) w w' ∧ RepV (bare (fun b => b < w.heap.size) w') v x

structure PSpec where
  pre : List IV → Prop
  val : List IV → IV
  own : Bool

def lkG : List (Nat × PSpec) → Nat → PSpec
  | [], _ => ⟨fun _ => False, fun _ => .junk, false⟩
  | (j, s) :: l, f => if j = f then s else lkG l f

def Enters (P : Program) (f : FuncId) : Prop := ∀ args w, (callFunc f args).run P w = .ok (.enter f args) w

theorem icall_of_F {P : Program} {f : FuncId} {args : List IV} {v : IV} (h : ICallF P f args v) (hc : ∀ id, v.ment id = false) : ICall P f args v := by
  intro A w as hA hL
  refine (h A w as hA hL).mono ?_
  rintro e w' ⟨x, h1, h2, h3⟩
  exact ⟨x, h1, h2, RepV.mono (c := bare (fun b => b < w.heap.size) w') (c' := bare A w') (ok := fun _ => False) ⟨fun _ h => h.elim, fun b _ h => hA b h, Nat.le_refl _, fun _ _ _ _ => rfl⟩ _ _ (fun id h => by rw [hc] at h; cases h) h3⟩

def GOK (P : Program) (G : List (Nat × PSpec)) : Prop := ∀ f args, (lkG G f).pre args → (ICall P f args ((lkG G f).val args) ∧ ((lkG G f).own = true → ICallF P f args ((lkG G f).val args))) ∧ Enters P f

/-- The same, of calls out of a frame. -/
def GOKF (P : Program) (F : Fr) (G : List (Nat × PSpec)) : Prop := ∀ f args, (lkG G f).pre args →
  ((∀ (A : Nat → Prop) (w : World) (as : List Value), Chg F.B0 F.w0 w → (∀ b, A b → b < w.heap.size) → RepL (bare A w) args as →
    Calls P f ⟨as⟩ w fun e w' => ∃ x, e = .returned x ∧ Chg (fun _ => False) w w' ∧ RepV (bare A w') ((lkG G f).val args) x) ∧
  ((lkG G f).own = true → ∀ (A : Nat → Prop) (w : World) (as : List Value), Chg F.B0 F.w0 w → (∀ b, A b → b < w.heap.size) → RepL (bare A w) args as →
    Calls P f ⟨as⟩ w fun e w' => ∃ x, e = .returned x ∧ Chg (fun _ => False) w w' ∧ RepV (bare (fun b => b < w.heap.size) w') ((lkG G f).val args) x)) ∧ Enters P f
theorem GOK.toF {P : Program} {G : List (Nat × PSpec)} (h : GOK P G) (F : Fr) : GOKF P F G := fun f args hp =>
  ⟨⟨fun A w as _ => (h f args hp).1.1 A w as, fun ho A w as _ => (h f args hp).1.2 ho A w as⟩, (h f args hp).2⟩

/-- A contract in worlds of a kind. -/
def ICallW (I : World → Prop) (P : Program) (f : FuncId) (args : List IV) (v : IV) : Prop :=
  ∀ (A : Nat → Prop) (w : World) (as : List Value), I w → (∀ b, A b → b < w.heap.size) → RepL (bare A w) args as →
    Calls P f ⟨as⟩ w fun e w' => ∃ x, e = .returned x ∧ Chg (fun _ => False) w w' ∧ RepV (bare A w') v x
def GOKW (I : World → Prop) (P : Program) (G : List (Nat × PSpec)) : Prop := ∀ f args, (lkG G f).pre args → ICallW I P f args ((lkG G f).val args) ∧ (lkG G f).own = false ∧ Enters P f
/-- New blocks alone do not matter. -/
def StabI (I : World → Prop) : Prop := ∀ w w', Chg (fun _ => False) w w' → I w → I w'
theorem GOKW.toF {I : World → Prop} {P : Program} {G : List (Nat × PSpec)} (h : GOKW I P G) (hI : StabI I) {F : Fr} (hw : I F.w0) (hB : F.B0 = fun _ => False) : GOKF P F G := fun f args hp =>
  ⟨⟨fun A w as hc => (h f args hp).1 A w as (hI _ _ (by rw [hB] at hc; exact hc) hw), fun ho => by rw [(h f args hp).2.1] at ho; cases ho⟩, (h f args hp).2.2⟩

mutual
/-- The ids that a value names. -/
def idsV : IV → List Nat
  | .agg l => idsL l
  | .tup l => idsL l
  | .clo _ l => idsL l
  | .opt _ x => idsV x
  | .ptr i _ => [i]
  | .aptr i _ _ => [i]
  | .ref i _ _ _ => [i]
  | _ => []
def idsL : List IV → List Nat
  | [] => []
  | x :: l => idsV x ++ idsL l
end
mutual
theorem ids_ment {id : Nat} : ∀ x : IV, id ∈ idsV x → x.ment id = true
  | .agg l, h => by simp only [IV.ment]; exact idsL_ment l (by simpa [idsV] using h)
  | .tup l, h => by simp only [IV.ment]; exact idsL_ment l (by simpa [idsV] using h)
  | .clo _ l, h => by simp only [IV.ment]; exact idsL_ment l (by simpa [idsV] using h)
  | .opt _ x, h => by simp only [IV.ment]; exact ids_ment x (by simpa [idsV] using h)
  | .ptr i _, h => by simp [idsV] at h; simp [IV.ment, h]
  | .aptr i _ _, h => by simp [idsV] at h; simp [IV.ment, h]
  | .ref i _ _ _, h => by simp [idsV] at h; simp [IV.ment, h]
  | .junk, h | .num _ _, h | .bool _, h | .str _, h | .sl _ _, h | .nils, h | .nilp, h | .nilI, h | .eptr _ _ _, h | .ifc, h | .anyB, h | .lsl _ _ _, h => by simp [idsV] at h
theorem idsL_ment {id : Nat} : ∀ l : List IV, id ∈ idsL l → IV.mentL id l = true
  | [], h => by simp [idsL] at h
  | x :: l, h => by
    simp only [idsL, List.mem_append] at h
    simp only [IV.mentL, Bool.or_eq_true]
    exact h.elim (fun h => .inl (ids_ment x h)) (fun h => .inr (idsL_ment l h))
end
mutual
theorem mem_ids {id : Nat} : ∀ x : IV, x.ment id = true → id ∈ idsV x
  | .junk, h => by simp [IV.ment] at h
  | .num _ _, h => by simp [IV.ment] at h
  | .bool _, h => by simp [IV.ment] at h
  | .str _, h => by simp [IV.ment] at h
  | .agg l, h => by simp only [IV.ment] at h; simp only [idsV]; exact mem_idsL l h
  | .tup l, h => by simp only [IV.ment] at h; simp only [idsV]; exact mem_idsL l h
  | .sl _ _, h => by simp [IV.ment] at h
  | .nils, h => by simp [IV.ment] at h
  | .nilp, h => by simp [IV.ment] at h
  | .nilI, h => by simp [IV.ment] at h
  | .ptr i _, h => by simp [IV.ment] at h; simp [idsV, h]
  | .aptr i _ _, h => by simp [IV.ment] at h; simp [idsV, h]
  | .eptr _ _ _, h => by simp [IV.ment] at h
  | .ref i _ _ _, h => by simp [IV.ment] at h; simp [idsV, h]
  | .clo _ l, h => by simp only [IV.ment] at h; simp only [idsV]; exact mem_idsL l h
  | .opt _ x, h => by simp only [IV.ment] at h; simp only [idsV]; exact mem_ids x h
  | .ifc, h => by simp [IV.ment] at h
  | .anyB, h => by simp [IV.ment] at h
  | .lsl _ _ _, h => by simp [IV.ment] at h
theorem mem_idsL {id : Nat} : ∀ l : List IV, IV.mentL id l = true → id ∈ idsL l
  | [], h => by simp [IV.mentL] at h
  | x :: l, h => by
    simp only [IV.mentL, Bool.or_eq_true] at h
    simp only [idsL, List.mem_append]
    exact h.imp (mem_ids x) (mem_idsL l)
end

/-- A slice of the frame's own, lent as what it holds; a pointer to a variable, lent to be read. -/
def lendP (h : Nat → Option IBlk) : IV → IV
  | .ref id off n full =>
    match h id with
    | some (.arr k _ es) => .sl k ((es.drop off).take n)
    | _ => .ref id off n full
  | .ptr id off =>
    match h id with
    | some (.box _ [c]) => bif noId' c then .eptr 1 c off else .ptr id off
    | some (.box _ (c :: d :: r)) => bif (c :: d :: r).all noId' then .eptr (r.length + 2) (.agg (c :: d :: r)) off else .ptr id off
    | _ => .ptr id off
  | x => x
def lendV (h : Nat → Option IBlk) : IV → IV
  | .clo g caps => .clo g (caps.map (lendP h))
  | x => lendP h x
def lentP (h : Nat → Option IBlk) : IV → Prop
  | .ref id off n _ =>
    match h id with
    | some (.arr _ _ es) => off + n ≤ es.length
    | _ => False
  | _ => True
def lentPs (h : Nat → Option IBlk) : List IV → Prop
  | [] => True
  | x :: l => lentP h x ∧ lentPs h l
def lent (h : Nat → Option IBlk) : IV → Prop
  | .clo _ caps => lentPs h caps
  | x => lentP h x
def isRef (x : IV) : Bool := !(idsV x).isEmpty

mutual
/-- Is a value free of memory? -/
def flat : IV → Bool
  | .num _ _ | .bool _ | .str _ | .nils | .nilp | .nilI | .lsl _ _ _ => true
  | .agg l => flatL l
  | .tup l => flatL l
  | _ => false
def flatL : List IV → Bool
  | [] => true
  | x :: l => flat x && flatL l
end
mutual
/-- A value that names no id. -/
def clean : IV → Bool
  | .num _ _ | .bool _ | .str _ | .nils | .nilp | .nilI | .sl _ _ | .ifc | .anyB | .junk | .eptr _ _ _ | .lsl _ _ _ => true
  | .agg l => cleanL l
  | .tup l => cleanL l
  | .opt _ v => clean v
  | .clo _ l => cleanL l
  | _ => false
def cleanL : List IV → Bool
  | [] => true
  | x :: l => clean x && cleanL l
end

def callArgs (tm : List (Nat × IV)) (fx : Operand) (args : List Operand) : List IV :=
  match gO tm fx with
  | .clo _ caps => args.map (gO tm) ++ caps
  | _ => []
def callFn (tm : List (Nat × IV)) (fx : Operand) : Nat :=
  match gO tm fx with
  | .clo g _ => g
  | _ => 0

def allLent (h : Nat → Option IBlk) : List IV → Prop
  | [] => True
  | x :: l => lent h x ∧ allLent h l

/-- Have these ids a block? -/
def hasAll (h : Nat → Option IBlk) : List Nat → Prop
  | [] => True
  | i :: l => (h i).isSome = true ∧ hasAll h l
theorem hasAll_mem {h : Nat → Option IBlk} {i : Nat} : ∀ {l : List Nat}, hasAll h l → i ∈ l → (h i).isSome = true
  | [], _, hi => by simp at hi
  | j :: l, hh, hi => by
    rcases List.mem_cons.1 hi with rfl | hi
    · exact hh.1
    · exact hasAll_mem hh.2 hi
theorem hasAll_congr {h h' : Nat → Option IBlk} : ∀ {l : List Nat}, (∀ i ∈ l, h' i = h i) → hasAll h' l = hasAll h l
  | [], _ => rfl
  | j :: l, hh => by
    simp only [hasAll]
    rw [hh j (by simp), hasAll_congr (fun i hi => hh i (by simp [hi]))]
/-- The blocks that are given up. -/
def giveUp : List Nat → List (Nat × Option IBlk)
  | [] => []
  | i :: l => (i, none) :: giveUp l
theorem giveUp_lk {h : List (Nat × Option IBlk)} {i : Nat} : ∀ {l : List Nat}, lkH (giveUp l ++ h) i = if i ∈ l then none else lkH h i
  | [] => by simp [giveUp]
  | j :: l => by
    simp only [giveUp, List.cons_append, lkH]
    by_cases e : j = i
    · subst e; simp
    · rw [if_neg e, giveUp_lk]
      have : (i ∈ j :: l) ↔ i ∈ l := by simp [Ne.symm e]
      simp only [this]

def effCall (G : List (Nat × PSpec)) (N : Nat) (ops : List Oper) (o : Oper) (fx : Operand) (args : List Operand) (s : ISt) : Eff :=
  let as := callArgs s.tm fx args
  let v := (lkG G (callFn s.tm fx)).val (as.map (lendV (lkH s.hp)))
  { ob := (gval s.tm ops o).2 ∧ dstOK N o ∧ ((gval s.tm ops o).1 = true → allB s.tm (fx :: args) ∧ (∃ g caps, gO s.tm fx = .clo g caps) ∧ allLent (lkH s.hp) as ∧
      (lkG G (callFn s.tm fx)).pre (as.map (lendV (lkH s.hp))) ∧ clean v = true ∧ ((flat v || (lkG G (callFn s.tm fx)).own) = true ∨ hasAll (lkH s.hp) (idsL as))),
    tv := setD o (wrapG o (gval s.tm ops o).1 v), hv := bif flat v || (lkG G (callFn s.tm fx)).own || !(gval s.tm ops o).1 then [] else giveUp (idsL as) }

section
variable {P : Program} {T : Nat → TD} {F : Fr} {μ κ : Nat → Nat} {s : ISt} {a : Act} {w : World} {ops : List Oper} {o : Oper}

mutual
theorem clean_ment {id : Nat} : ∀ x : IV, clean x = true → x.ment id = false
  | .num _ _, _ => by simp [IV.ment]
  | .bool _, _ => by simp [IV.ment]
  | .str _, _ => by simp [IV.ment]
  | .nils, _ => by simp [IV.ment]
  | .nilp, _ => by simp [IV.ment]
  | .nilI, _ => by simp [IV.ment]
  | .sl _ _, _ => by simp [IV.ment]
  | .ifc, _ => by simp [IV.ment]
  | .anyB, _ => by simp [IV.ment]
  | .lsl _ _ _, _ => by simp [IV.ment]
  | .junk, _ => by simp [IV.ment]
  | .agg l, h => by simp only [clean] at h; simp [IV.ment, cleanL_ment l h]
  | .tup l, h => by simp only [clean] at h; simp [IV.ment, cleanL_ment l h]
  | .opt _ v, h => by simp only [clean] at h; simp [IV.ment, clean_ment v h]
  | .clo _ l, h => by simp only [clean] at h; simp [IV.ment, cleanL_ment l h]
  | .ptr _ _, h => by simp [clean] at h
  | .aptr _ _ _, h => by simp [clean] at h
  | .eptr _ _ _, _ => by simp [IV.ment]
  | .ref _ _ _ _, h => by simp [clean] at h
theorem cleanL_ment {id : Nat} : ∀ l : List IV, cleanL l = true → IV.mentL id l = false
  | [], _ => by simp [IV.mentL]
  | x :: l, h => by
    simp only [cleanL, Bool.and_eq_true] at h
    simp [IV.mentL, clean_ment x h.1, cleanL_ment l h.2]
end

mutual
/-- What is free of memory holds in every context. -/
theorem flat_any {c c' : Ctx} : ∀ (x : IV) (v : Value), flat x = true → RepV c x v → RepV c' x v
  | .num _ _, v, _, h => by simpa [RepV] using h
  | .bool _, v, _, h => by simpa [RepV] using h
  | .str _, v, _, h => by simpa [RepV] using h
  | .nils, v, _, h => by simpa [RepV] using h
  | .nilp, v, _, h => by simpa [RepV] using h
  | .nilI, v, _, h => by simpa [RepV] using h
  | .agg l, v, hf, h => by
    simp only [flat] at hf
    simp only [RepV] at h ⊢
    obtain ⟨vs, hv, hl⟩ := h
    exact ⟨vs, hv, flatL_any l vs hf hl⟩
  | .tup l, v, hf, h => by
    simp only [flat] at hf
    simp only [RepV] at h ⊢
    obtain ⟨vs, hv, hl⟩ := h
    exact ⟨vs, hv, flatL_any l vs hf hl⟩
  | .sl _ _, _, h, _ => by simp [flat] at h
  | .ifc, _, h, _ => by simp [flat] at h
  | .anyB, _, h, _ => by simp [flat] at h
  | .lsl _ _ _, v, _, h => by simpa [RepV] using h
  | .junk, _, h, _ => by simp [flat] at h
  | .opt _ _, _, h, _ => by simp [flat] at h
  | .clo _ _, _, h, _ => by simp [flat] at h
  | .ptr _ _, _, h, _ => by simp [flat] at h
  | .aptr _ _ _, _, h, _ => by simp [flat] at h
  | .eptr _ _ _, _, h, _ => by simp [flat] at h
  | .ref _ _ _ _, _, h, _ => by simp [flat] at h
theorem flatL_any {c c' : Ctx} : ∀ (l : List IV) (vs : List Value), flatL l = true → RepL c l vs → RepL c' l vs
  | [], vs, _, h => by simpa [RepL] using h
  | x :: l, vs, hf, h => by
    simp only [flatL, Bool.and_eq_true] at hf
    simp only [RepL] at h ⊢
    obtain ⟨v, r, hv, hx, hl⟩ := h
    exact ⟨v, r, hv, flat_any x v hf.1 hx, flatL_any l r hf.2 hl⟩
end

/-- The blocks lent to a call. -/
def lentB (μ : Nat → Nat) (as : List IV) : Nat → Prop := fun b => ∃ id, id ∈ idsL as ∧ μ id = b

theorem oneCell_noAgg {v : Value} (h : v.oneCell' = true) : isAggV v = false ∧ v.cells = #[v] := by
  cases v <;> simp_all [Value.oneCell', isAggV, Value.cells]

theorem lendP_rep (R : RepS F μ κ s a w) {x : IV} {v : Value} (hx : RepV (ctx F μ κ s.hp w) x v) (hl : lentP (lkH s.hp) x) (B : Nat → Prop)
    (hB : ∀ id, x.ment id = true → B (μ id)) :
    RepV (bare (fun b => avOf F μ s.hp b ∧ ¬ B b) w) (lendP (lkH s.hp) x) v := by
  have hle : (ctx F μ κ s.hp w).Le (bare (fun b => avOf F μ s.hp b ∧ ¬ B b) w) (fun _ => True) :=
    ⟨fun _ _ => .inl rfl, fun b _ h => h.1, Nat.le_refl _, fun _ _ _ _ => rfl⟩
  cases x with
  | ref id off n full =>
    simp only [lendP, lentP] at hl ⊢
    have hBi := hB id (by simp [IV.ment])
    cases hb : lkH s.hp id with
    | none => rw [hb] at hl; exact hl.elim
    | some blk =>
      cases blk with
      | box ty cells => rw [hb] at hl; exact hl.elim
      | arr k ty es =>
        rw [hb] at hl
        simp only at hl ⊢
        obtain ⟨⟨cur, hheap, h2, h3, h4, h5, h6, h7⟩, hr⟩ := R.own id _ hb
        simp only [RepV] at hx ⊢
        obtain ⟨ao, cp, rfl, han, hx⟩ := hx
        obtain ⟨hn, hcap, _, ha⟩ := hx k h4 (by show (lkH s.hp id).map _ = _; rw [hb]; rfl)
        have h3' : κ id ≤ maxLen := h3
        have hcap' : off + cp ≤ κ id := hcap
        refine ⟨ao, n, cp, rfl, by simp; omega, hn, by omega, han, (h6.drop off).take n, fun h0 => ?_⟩
        refine ⟨μ id, off * k, ha (.inl h0), fun h => h.2 hBi, lt_of_own R hb, ?_⟩
        have hR := (h7.drop off (by omega)).take n
        obtain ⟨xs, hX, hc⟩ := hR.toX
        exact (hX.mono hle (fun _ _ => trivial)).toR (fun j u hu => by have := hc j u hu; rwa [Nat.zero_add] at this)
  | ptr id off =>
    have hBi := hB id (by simp [IV.ment])
    simp only [lendP]
    have hself := RepV.mono hle _ _ (fun _ _ => trivial) hx
    cases hb : lkH s.hp id with
    | none => exact hself
    | some blk =>
      cases blk with
      | arr k ty es => exact hself
      | box ty cells =>
        obtain ⟨⟨cs, hheap, hL, h1⟩, hr⟩ := R.own id _ hb
        have hlt := lt_of_own R hb
        have hx0 := hx
        simp only [RepV] at hx0
        obtain ⟨ad, rfl, hx0⟩ := hx0
        have had := hx0 (by show (lkH s.hp id).map _ = _; rw [hb]; rfl)
        match cells, hL with
        | [], _ => exact hself
        | [c], hL =>
          simp only []
          cases hc : noId' c with
          | false => exact hself
          | true =>
            simp only [RepL] at hL
            obtain ⟨u, r, rfl, hu, rfl⟩ := hL
            obtain ⟨ha, hcl⟩ := oneCell_noAgg (h1 u (by simp))
            simp only [cond_true, RepV]
            refine ⟨μ id, 0, u, by rw [had]; simp; rfl, fun h => h.2 hBi, hlt, noId'_ok hc, RepV.mono hle c u (fun _ _ => trivial) hu, ⟨by rw [hcl]; rfl, by rw [hcl]; simpa using h1 u (by simp), by rw [ha]; rfl, Nat.le_refl _⟩, fun j hj => ?_⟩
            have : j = 0 := by omega
            subst this
            rw [hcl]
            show w.cell? ⟨μ id, 0 + 0, none⟩ = _
            rw [cell_of_row w (μ id) _ _ _ _ hheap]
        | c :: d :: r, hL =>
          simp only []
          cases hc : (c :: d :: r).all noId' with
          | false => exact hself
          | true =>
            have hlen := hL.length
            simp only [cond_true, RepV]
            refine ⟨μ id, 0, .agg ⟨cs⟩, by rw [had]; simp; rfl, fun h => h.2 hBi, hlt, ?_, ⟨cs, rfl, RepL.mono hle _ _ (fun _ _ => trivial) hL⟩, ⟨by simp [Value.cells, hlen], by simpa [Value.cells] using h1, by simp [isAggV], by omega⟩, fun j hj => ?_⟩
            · intro i
              simp only [IV.ment]
              exact noIdL_of (fun y hy => noId'_ok (List.all_eq_true.1 hc y hy)) i
            · show w.cell? ⟨μ id, 0 + j, none⟩ = _
              rw [Nat.zero_add, cell_of_row w (μ id) _ _ _ _ hheap]
              rfl
  | _ => exact RepV.mono hle _ _ (fun _ _ => trivial) hx

theorem lendPs_rep (R : RepS F μ κ s a w) (B : Nat → Prop) : ∀ {l : List IV} {vs : List Value}, RepL (ctx F μ κ s.hp w) l vs → lentPs (lkH s.hp) l →
    (∀ id, IV.mentL id l = true → B (μ id)) → RepL (bare (fun b => avOf F μ s.hp b ∧ ¬ B b) w) (l.map (lendP (lkH s.hp))) vs
  | [], vs, h, _, _ => by simpa [RepL] using h
  | x :: l, vs, h, hl, hB => by
    simp only [RepL, List.map_cons, lentPs] at h hl ⊢
    obtain ⟨v, r, hv, hx, hr⟩ := h
    exact ⟨v, r, hv, lendP_rep R hx hl.1 B (fun id e => hB id (by simp [IV.mentL, e])), lendPs_rep R B hr hl.2 (fun id hm => hB id (by simp [IV.mentL, hm]))⟩

theorem lend_rep (R : RepS F μ κ s a w) {x : IV} {v : Value} (hx : RepV (ctx F μ κ s.hp w) x v) (hl : lent (lkH s.hp) x) (B : Nat → Prop)
    (hB : ∀ id, x.ment id = true → B (μ id)) :
    RepV (bare (fun b => avOf F μ s.hp b ∧ ¬ B b) w) (lendV (lkH s.hp) x) v := by
  cases x with
  | clo g caps =>
    simp only [lent] at hl
    simp only [lendV, RepV] at hx ⊢
    obtain ⟨cs, hv, hc⟩ := hx
    exact ⟨cs, hv, lendPs_rep R B hc hl (fun id hm => hB id (by simpa [IV.ment] using hm))⟩
  | _ => exact lendP_rep R hx hl B hB

theorem lendL_rep (R : RepS F μ κ s a w) (B : Nat → Prop) : ∀ {l : List IV} {vs : List Value}, RepL (ctx F μ κ s.hp w) l vs → allLent (lkH s.hp) l →
    (∀ id, IV.mentL id l = true → B (μ id)) → RepL (bare (fun b => avOf F μ s.hp b ∧ ¬ B b) w) (l.map (lendV (lkH s.hp))) vs
  | [], vs, h, _, _ => by simpa [RepL] using h
  | x :: l, vs, h, hl, hB => by
    simp only [RepL, List.map_cons, allLent] at h hl ⊢
    obtain ⟨v, r, hv, hx, hr⟩ := h
    exact ⟨v, r, hv, lend_rep R hx hl.1 B (fun id e => hB id (by simp [IV.mentL, e])), lendL_rep R B hr hl.2 (fun id hm => hB id (by simp [IV.mentL, hm]))⟩

theorem run_invoke_clo {f : FuncId} (hf : Enters P f) {o : Oper} {ρ : Operand → Value} {fx : Operand} {args : Array Operand} {tys : Array TypeId} {caps : List Value} (ho : o.op = .call { callee := .value fx, args := args, argTypes := tys })
    (hfx : ρ fx = .func (.func f) #[] ⟨caps⟩) (w : World) : (execOp ρ o).run P w = .ok (.enter f ⟨args.toList.map ρ ++ caps⟩) w := by
  have e : args.map ρ ++ (⟨caps⟩ : Array Value) = ⟨args.toList.map ρ ++ caps⟩ := by apply Array.ext'; simp
  simp only [execOp, ho, resolve, hfx, Deferred.ofValue, Sem.run_bind, Sem.run_pure, Result.andThen_ok, invoke, Array.empty_append, e]
  exact hf _ _

theorem effCall_sound {G : List (Nat × PSpec)} (hGOK : GOKF P F G) {fx : Operand} {args : Array Operand} {tys : Array TypeId} (ho : o.op = .call { callee := .value fx, args := args, argTypes := tys })
    (hob : (effCall G F.N ops o fx args.toList s).ob) : StepOK P F ops o s (effCall G F.N ops o fx args.toList s) := by
  intro μ κ a w R Q next hn
  obtain ⟨hg, hd, hp⟩ := hob
  rw [gval_wanted R hg]
  cases hG : (gval s.tm ops o).1 with
  | true =>
    obtain ⟨hb, ⟨f, caps, hfx⟩, hlent, hpre, hclean, hflat⟩ := hp hG
    simp only [if_true]
    refine .inl ?_
    have hfxr := gO_rep R (allB_mem hb fx (by simp))
    rw [hfx] at hfxr
    simp only [RepV] at hfxr
    obtain ⟨cs, hfv, hcaps⟩ := hfxr
    have hfn : callFn s.tm fx = f := by simp [callFn, hfx]
    have has : callArgs s.tm fx args.toList = args.toList.map (gO s.tm) ++ caps := by simp [callArgs, hfx]
    rw [hfn] at hpre
    obtain ⟨⟨hcall, hcallF⟩, hent⟩ := hGOK f _ hpre
    have hargs : RepL (ctx F μ κ s.hp w) (callArgs s.tm fx args.toList) (args.toList.map a.eval ++ cs) := by
      rw [has]
      exact (RepL_map (fun y hy => gO_rep R (allB_mem hb y (by simp [hy])))).append hcaps
    unfold Oper.wp
    rw [run_invoke_clo hent ho hfv w, Oper.upon_enter]
    let B : Nat → Prop := lentB μ (callArgs s.tm fx args.toList)
    have hL := lendL_rep R B hargs hlent (fun id hm => ⟨id, mem_idsL _ hm, rfl⟩)
    have hlt : ∀ b, (avOf F μ s.hp b ∧ ¬ B b) → b < w.heap.size := by
      rintro b ⟨h | ⟨id, hid, rfl⟩, _⟩
      · exact Nat.lt_of_lt_of_le (F.hA b h) R.chg.size
      · cases hb : lkH s.hp id with
        | none => exact absurd hb hid
        | some blk => exact lt_of_own R hb
    have hlt2 : ∀ b, avOf F μ s.hp b → b < w.heap.size := by
      rintro b (h | ⟨id, hid, rfl⟩)
      · exact Nat.lt_of_lt_of_le (F.hA b h) R.chg.size
      · cases hb : lkH s.hp id with
        | none => exact absurd hb hid
        | some blk => exact lt_of_own R hb
    have hboth : Calls P f ⟨args.toList.map a.eval ++ cs⟩ w fun e w' => ∃ x, e = .returned x ∧ Chg (fun _ => False) w w' ∧
        (((lkG G f).own = false ∧ RepV (bare (fun b => avOf F μ s.hp b ∧ ¬ B b) w') ((lkG G f).val ((callArgs s.tm fx args.toList).map (lendV (lkH s.hp)))) x) ∨
          ((lkG G f).own = true ∧ RepV (bare (fun b => b < w.heap.size) w') ((lkG G f).val ((callArgs s.tm fx args.toList).map (lendV (lkH s.hp)))) x)) := by
      cases ho : (lkG G f).own with
      | true =>
        refine (hcallF ho (fun b => avOf F μ s.hp b ∧ ¬ B b) w _ R.chg hlt hL).mono ?_
        rintro e w' ⟨x, h1, h2, h3⟩
        exact ⟨x, h1, h2, .inr ⟨rfl, h3⟩⟩
      | false =>
        refine (hcall (fun b => avOf F μ s.hp b ∧ ¬ B b) w _ R.chg hlt hL).mono ?_
        rintro e w' ⟨x, h1, h2, h3⟩
        exact ⟨x, h1, h2, .inl ⟨rfl, h3⟩⟩
    refine hboth.mono ?_
    rintro e w' ⟨x, rfl, hchg, hrep⟩
    simp only
    have hle0 : (ctx F μ κ s.hp w).Le (ctx F μ κ s.hp w') (fun _ => True) :=
      ⟨fun _ _ => .inr ⟨rfl, rfl, rfl⟩, fun b _ h => h, hchg.size, fun b o' hb _ => World.cell?_of_block (hchg.block b hb (fun h => h))⟩
    have R' : RepS F μ κ s a w' := by
      refine R.move (fun _ => True) (R.chg.trans hchg (fun _ h => h) (fun _ _ h => h.elim)) R.inj (fun id blk hb => ?_) hle0 (fun _ _ _ => trivial) (fun _ _ _ => ⟨rfl, rfl⟩)
      obtain ⟨hB, hr⟩ := R.own id blk hb
      have hl := lt_of_own R hb
      exact ⟨RepB.mono hle0 rfl rfl (hchg.block _ hl (fun h => h)) (fun o' => World.cell?_of_block (hchg.block _ hl (fun h => h))) (fun _ _ _ _ _ => trivial) hB, hr⟩
    have hend : ∀ hp' : List (Nat × Option IBlk), RepS F μ κ ⟨s.tm, hp'⟩ a w' → RepV (ctx F μ κ hp' w') ((lkG G (callFn s.tm fx)).val ((callArgs s.tm fx args.toList).map (lendV (lkH s.hp)))) x →
        RepV (ctx F μ κ hp' w') (wrapG o true ((lkG G (callFn s.tm fx)).val ((callArgs s.tm fx args.toList).map (lendV (lkH s.hp))))) x := by
      intro hp' _ hv
      unfold wrapG
      cases o.guard with
      | none => exact hv
      | some p => simp only [RepV]; exact ⟨fun _ => hv, fun h => (by cases h)⟩
    rw [← hfn] at hrep
    cases hfo : (flat ((lkG G (callFn s.tm fx)).val ((callArgs s.tm fx args.toList).map (lendV (lkH s.hp)))) || (lkG G (callFn s.tm fx)).own) with
    | true =>
      have hv : RepV (ctx F μ κ s.hp w') ((lkG G (callFn s.tm fx)).val ((callArgs s.tm fx args.toList).map (lendV (lkH s.hp)))) x := by
        rcases hrep with ⟨hno, hrep⟩ | ⟨hown, hrep⟩
        · rw [hno, Bool.or_false] at hfo
          exact flat_any _ _ hfo hrep
        · refine RepV.mono (c := bare (fun b => b < w.heap.size) w') (c' := ctx F μ κ s.hp w') (ok := fun _ => False) ⟨fun _ h => h.elim, fun b hb h => hlt2 b h, Nat.le_refl _, fun _ _ _ _ => rfl⟩ _ _ (fun id h => ?_) hrep
          rw [clean_ment _ hclean] at h
          cases h
      have e : s.app (effCall G F.N ops o fx args.toList s) = s.app ⟨True, setD o (wrapG o true ((lkG G (callFn s.tm fx)).val ((callArgs s.tm fx args.toList).map (lendV (lkH s.hp))))), []⟩ := by
        unfold effCall ISt.app
        simp only [hG, hfo, Bool.true_or, cond_true]
      refine hn μ κ _ _ ?_
      rw [e]
      exact app_set R' (hend s.hp R' hv) hd True
    | false =>
      rw [hfo] at hflat
      have hall := hflat.resolve_left (by simp)
      simp only [Bool.or_eq_false_iff] at hfo
      let hp' := giveUp (idsL (callArgs s.tm fx args.toList)) ++ s.hp
      have hsub : ∀ id blk, lkH hp' id = some blk → id ∉ idsL (callArgs s.tm fx args.toList) ∧ lkH s.hp id = some blk := by
        intro id blk hb
        simp only [hp', giveUp_lk] at hb
        split at hb
        · cases hb
        · rename_i hni; exact ⟨hni, hb⟩
      have hsub2 : ∀ id, lkH hp' id ≠ none → id ∉ idsL (callArgs s.tm fx args.toList) ∧ lkH s.hp id ≠ none := by
        intro id hb
        cases e : lkH hp' id with
        | none => exact absurd e hb
        | some blk => have := hsub id blk e; exact ⟨this.1, by rw [this.2]; simp⟩
      have hle1 : (ctx F μ κ s.hp w').Le (ctx F μ κ hp' w') (fun _ => True) := by
        refine ⟨fun id _ => ?_, fun b _ h => ?_, Nat.le_refl _, fun _ _ _ _ => rfl⟩
        · by_cases hm : id ∈ idsL (callArgs s.tm fx args.toList)
          · left; simp [ctx, hp', giveUp_lk, hm]
          · right; simp [ctx, hp', giveUp_lk, hm]
        · rcases h with h | ⟨id, h1, h2⟩
          · exact .inl h
          · exact .inr ⟨id, (hsub2 id h1).2, h2⟩
      have R1 : RepS F μ κ ⟨s.tm, hp'⟩ a w' := by
        refine R'.move (fun _ => True) R'.chg (fun i j hi hj e => R'.inj i j (hsub2 i hi).2 (hsub2 j hj).2 e) (fun id blk hb => ?_) hle1 (fun _ _ _ => trivial) (fun _ _ _ => ⟨rfl, rfl⟩)
        obtain ⟨hB, hr⟩ := R'.own id blk (hsub id blk hb).2
        exact ⟨RepB.mono hle1 rfl rfl rfl (fun _ => rfl) (fun _ _ _ _ _ => trivial) hB, hr⟩
      have hv : RepV (ctx F μ κ hp' w') ((lkG G (callFn s.tm fx)).val ((callArgs s.tm fx args.toList).map (lendV (lkH s.hp)))) x := by
        rcases hrep with ⟨hno, hrep⟩ | ⟨hown, hrep⟩
        · refine RepV.mono (c := bare (fun b => avOf F μ s.hp b ∧ ¬ B b) w') (c' := ctx F μ κ hp' w') (ok := fun _ => False) ⟨fun _ h => h.elim, fun b hb h => ⟨hle1.av b hb h, ?_⟩, Nat.le_refl _, fun _ _ _ _ => rfl⟩ _ _ (fun id h => ?_) hrep
          · rintro ⟨id, hm, rfl⟩
            have hs := hasAll_mem hall hm
            cases hbi : lkH s.hp id with
            | none => rw [hbi] at hs; cases hs
            | some blk =>
              rcases h with h | ⟨id2, h1, h2⟩
              · exact (R'.own id blk hbi).2.1 h
              · have h3 := hsub2 id2 h1
                have := R'.inj id2 id h3.2 (by rw [hbi]; simp) h2
                exact h3.1 (this ▸ hm)
          · rw [clean_ment _ hclean] at h
            cases h
        · rw [hown] at hfo
          cases hfo.2
      have e : s.app (effCall G F.N ops o fx args.toList s) = (⟨s.tm, hp'⟩ : ISt).app ⟨True, setD o (wrapG o true ((lkG G (callFn s.tm fx)).val ((callArgs s.tm fx args.toList).map (lendV (lkH s.hp))))), []⟩ := by
        unfold effCall ISt.app
        simp only [hG, hfo.1, hfo.2, Bool.or_false, Bool.not_true, cond_false, hp', List.nil_append]
      refine hn μ κ _ _ ?_
      rw [e]
      exact app_set R1 (hend hp' R1 hv) hd True
  | false =>
    simp only [Bool.false_eq_true, if_false]
    have e : s.app (effCall G F.N ops o fx args.toList s) = s.app ⟨True, setD o (wrapG o false ((lkG G (callFn s.tm fx)).val ((callArgs s.tm fx args.toList).map (lendV (lkH s.hp))))), []⟩ := by
      unfold effCall ISt.app
      simp only [hG, Bool.not_false, Bool.or_true, cond_true]
    refine hn μ κ _ _ ?_
    rw [e]
    refine app_set R ?_ hd True
    unfold wrapG
    cases hgd : o.guard with
    | none => simp [gval, hgd] at hG
    | some p => simp [RepV]

end
end Go.Ideal

/- The built-in clear, at a slice of the frame's own. -/
set_option linter.unusedVariables false
set_option linter.unusedSimpArgs false
namespace Go.Ideal
open Go

theorem RepR_of {c : Ctx} {k b : Nat} : ∀ {es : List IV} {o : Nat}, (∀ i, i < es.length → ∃ x, RepV c (es.getD i .junk) x ∧ EltOk k x ∧ ∀ j, j < k → c.w.cell? ⟨b, o + i * k + j, none⟩ = x.cells[j]?) → RepR c k b o es
  | [], o, _ => by simp [RepR]
  | e :: es, o, h => by
    simp only [RepR]
    refine ⟨?_, RepR_of (fun i hi => ?_)⟩
    · obtain ⟨x, h1, h2, h3⟩ := h 0 (by simp)
      exact ⟨x, by simpa using h1, h2, by simpa using h3⟩
    · obtain ⟨x, h1, h2, h3⟩ := h (i + 1) (by simpa using hi)
      refine ⟨x, by simpa using h1, h2, fun j hj => ?_⟩
      have := h3 j hj
      rwa [show o + (i + 1) * k + j = o + k + i * k + j by rw [Nat.add_mul]; omega] at this

def effClear (T : Nat → TD) (N : Nat) (ops : List Oper) (o : Oper) (t : TypeId) (x : Operand) (s : ISt) : Eff :=
  bif (gval s.tm ops o).1 then
    match gO s.tm x with
    | .ref id off n _ =>
      match lkH s.hp id with
      | some (.arr k ty es) =>
        { ob := (gval s.tm ops o).2 ∧ o.dst = none ∧ gB s.tm x = true ∧ (T t).on = true ∧ (T t).elem ≠ 0 ∧ (T (T t).elem).on = true ∧ (T t).elem = ty ∧ (T (T t).elem).size = k ∧ off + n ≤ es.length ∧ noId' (zeroElt (T (T t).elem)) = true,
          tv := [], hv := [(id, some (.arr k ty (es.take off ++ List.replicate n (zeroElt (T (T t).elem)) ++ es.drop (off + n))))] }
      | _ => { ob := False, tv := [], hv := [] }
    | _ => { ob := False, tv := [], hv := [] }
  else { ob := (gval s.tm ops o).2 ∧ o.dst = none, tv := [], hv := [] }

section
variable {P : Program} {T : Nat → TD} {F : Fr} {μ κ : Nat → Nat} {s : ISt} {a : Act} {w : World} {ops : List Oper} {o : Oper}

theorem cleared_getD {es : List IV} {off n : Nat} {z : IV} (h : off + n ≤ es.length) (i : Nat) (hi : i < es.length) :
    (es.take off ++ List.replicate n z ++ es.drop (off + n)).getD i .junk = if off ≤ i ∧ i < off + n then z else es.getD i .junk := by
  have h1 : (es.take off).length = off := by simp; omega
  simp only [List.getD_eq_getElem?_getD]
  by_cases ha : i < off
  · rw [if_neg (by omega), List.append_assoc, List.getElem?_append_left (by omega), List.getElem?_take, if_pos ha]
  · by_cases hb : i < off + n
    · rw [if_pos ⟨by omega, hb⟩, List.getElem?_append_left (by simp; omega), List.getElem?_append_right (by omega), h1, List.getElem?_replicate, if_pos (by omega)]
      rfl
    · rw [if_neg (by omega), List.getElem?_append_right (by simp; omega), List.getElem?_drop]
      congr 2
      simp; omega

theorem effClear_sound (hT : TOK P T) {t : TypeId} {x : Operand} (ho : o.op = .call { callee := .builtin .clear, args := #[x], argTypes := #[t] })
    (hob : (effClear T F.N ops o t x s).ob) : StepOK P F ops o s (effClear T F.N ops o t x s) := by
  intro μ κ a w R Q next hn
  unfold effClear at hob hn
  cases hG : (gval s.tm ops o).1 with
  | false =>
    rw [hG] at hob hn
    simp only [cond_false] at hob hn
    rw [gval_wanted R hob.1, hG]
    simp only [Bool.false_eq_true, if_false]
    refine hn μ κ _ _ ?_
    rw [hob.2]
    exact R.putNone _
  | true =>
    rw [hG] at hob hn
    simp only [cond_true] at hob hn
    cases hx : gO s.tm x with
    | ref id off n f =>
      rw [hx] at hob hn
      simp only at hob hn
      cases hb : lkH s.hp id with
      | none => rw [hb] at hob; exact hob.elim
      | some blk =>
        cases blk with
        | box ty cells => rw [hb] at hob; exact hob.elim
        | arr k ty es =>
          rw [hb] at hob hn
          simp only at hob hn
          obtain ⟨hg, hd, hbx, hon, he, hoe, rfl, rfl, hfit, hno⟩ := hob
          rw [gval_wanted R hg, hG]
          simp only [if_true]
          refine .inl ?_
          have hu := (hT t hon).slice he
          obtain ⟨i, z, hi, hsz, hbytes, hz, helt, hfree⟩ := (hT _ hoe).info
          generalize hk : (T (T t).elem).size = k at *
          have hxr := gO_rep R hbx
          rw [hx] at hxr
          simp only [RepV] at hxr
          obtain ⟨ao, cp, hv, han, hxr⟩ := hxr
          obtain ⟨⟨cur, h1, h2, h3, h4, h5, h6, h7⟩, hr⟩ := R.own id _ hb
          have h1' : w.heap[μ id]? = some (.cells cur (T t).elem (0, 0)) := h1
          have h2' : cur.size = κ id * k := h2
          have h5' : es.length ≤ κ id := h5
          obtain ⟨hn1, hcap, _, ha⟩ := hxr k h4 (by show (lkH s.hp id).map _ = _; rw [hb]; rfl)
          have hzv : ∀ w', (zeroValue (T t).elem).run P w' = .ok z w' := fun w' => by simp [zeroValue, typeInfo, hi, hz]
          have hzs : z.cells.size = k := helt.1
          let cs := (Builtin.zeroCells z.cells n).toList
          have hcl : cs.length = n * k := by simp [cs, Builtin.zeroCells, hzs]
          have hcq : ∀ q, q < n * k → cs[q]? = z.cells[q % k]? := by
            intro q hq
            have hm : q % k < z.cells.size := by rw [hzs]; exact Nat.mod_lt _ (by omega)
            simp only [cs, Builtin.zeroCells, hzs, Array.getElem?_toList, Array.getElem?_map]
            rw [Array.getElem?_eq_getElem (by simpa using hq), Array.getElem?_eq_getElem hm]
            simp only [Option.map_some, Array.getElem_range, Option.some.injEq]
            exact getElem!_pos z.cells (q % k) hm
          have hfc : off * k + n * k ≤ cur.size := by
            rw [h2', ← Nat.add_mul]
            exact Nat.mul_le_mul_right _ (by omega)
          have hone : ∀ u ∈ cs, u.oneCell' = true := by
            intro u hu'
            obtain ⟨q, hq, rfl⟩ := List.mem_iff_getElem.1 hu'
            have h0 := hcq q (by omega)
            rw [List.getElem?_eq_getElem hq] at h0
            exact helt.2.1 _ (by have := Array.mem_of_getElem? h0.symm; simpa using this)
          have fin : ∀ w', (w' = w ∧ n = 0) ∨ (w' = w.setRow (μ id) ⟨overV cur.toList (off * k) cs⟩ ∧ 0 < n) →
              RepS F μ κ ⟨s.tm, (id, some (.arr k (T t).elem (es.take off ++ List.replicate n (zeroElt (T (T t).elem)) ++ es.drop (off + n)))) :: s.hp⟩ a w' := by
            intro w' hw'
            have hcell : ∃ cur', w'.heap[μ id]? = some (.cells cur' (T t).elem (0, 0)) ∧ cur'.size = cur.size ∧ ∀ q, w'.cell? ⟨μ id, q, none⟩ = if off * k ≤ q ∧ q < off * k + n * k then z.cells[(q - off * k) % k]? else cur.toList[q]? := by
              rcases hw' with ⟨rfl, rfl⟩ | ⟨rfl, h0⟩
              · refine ⟨cur, h1', rfl, fun q => ?_⟩
                rw [if_neg (by omega), cell_of_row _ _ _ _ _ _ h1']; simp
              · have hh : (w.setRow (μ id) ⟨overV cur.toList (off * k) cs⟩).heap[μ id]? = some (.cells ⟨overV cur.toList (off * k) cs⟩ (T t).elem (0, 0)) := setRow_heap w _ cur _ _ _ h1'
                refine ⟨_, hh, ?_, fun q => ?_⟩
                · simp only [overV, List.size_toArray, List.length_append, List.length_take, List.length_drop, Array.length_toList]; omega
                · rw [cell_of_row _ _ _ _ _ _ hh]
                  have := overV_get (l := cur.toList) (cs := cs) (o := off * k) (by simpa [hcl] using hfc) q
                  simp only [List.getElem?_toArray, this, hcl]
                  by_cases ha : q < off * k
                  · rw [if_pos ha, if_neg (by omega)]
                  · rw [if_neg ha]
                    by_cases hb' : q < off * k + n * k
                    · rw [if_pos hb', if_pos (by omega), hcq _ (by omega)]
                    · rw [if_neg hb', if_neg (by omega)]
            obtain ⟨cur', hheap, hs', hcl'⟩ := hcell
            have hlen : (es.take off ++ List.replicate n (zeroElt (T (T t).elem)) ++ es.drop (off + n)).length = es.length := by simp; omega
            have hchg : Chg (fun x => x = μ id) w w' := by
              rcases hw' with ⟨rfl, _⟩ | ⟨rfl, _⟩
              · exact Chg.refl _ _
              · exact chg_setRow _ _ _
            have hsize : w'.heap.size = w.heap.size := by rcases hw' with ⟨rfl, _⟩ | ⟨rfl, _⟩ <;> simp
            refine writeBlock R (b' := .arr k (T t).elem (es.take off ++ List.replicate n (zeroElt (T (T t).elem)) ++ es.drop (off + n))) hb rfl hchg hsize (fun c hle hμ hκ hw => ?_)
            subst hw
            refine ⟨cur', by rw [hμ]; exact hheap, by rw [hs', hκ]; exact h2', by rw [hκ]; exact h3, h4, by rw [hκ, hlen]; exact h5', ?_, ?_⟩
            · refine noIdL_of fun y hy => ?_
              rcases List.mem_append.1 hy with hy | hy
              · rcases List.mem_append.1 hy with hy | hy
                · exact noIdL_mem h6 y (List.mem_of_mem_take hy)
                · rw [List.eq_of_mem_replicate hy]; exact noId'_ok hno
              · exact noIdL_mem h6 y (List.mem_of_mem_drop hy)
            · rw [hμ]
              refine RepR_of (fun i hi => ?_)
              rw [hlen] at hi
              rw [cleared_getD hfit i hi]
              by_cases hin : off ≤ i ∧ i < off + n
              · rw [if_pos hin]
                refine ⟨z, zeroElt_rep (by rw [hk]; exact helt) hfree, helt, fun j hj => ?_⟩
                have m1 : off * k ≤ i * k := Nat.mul_le_mul_right _ hin.1
                have m2 : (i + 1) * k ≤ (off + n) * k := Nat.mul_le_mul_right _ (by omega)
                rw [Nat.add_mul, Nat.add_mul] at m2
                rw [hcl', if_pos (by omega)]
                congr 1
                rw [show 0 + i * k + j - off * k = (i - off) * k + j by rw [Nat.sub_mul]; omega, Nat.mul_comm, Nat.mul_add_mod]
                exact Nat.mod_eq_of_lt hj
              · rw [if_neg hin]
                obtain ⟨y, hy, hky, hcy⟩ := h7.get i hi
                refine ⟨y, RepV.mono hle _ _ (fun _ _ => trivial) hy, hky, fun j hj => ?_⟩
                have m1 : i < off → (i + 1) * k ≤ off * k := fun h => Nat.mul_le_mul_right _ (by omega)
                have m2 : off + n ≤ i → (off + n) * k ≤ i * k := fun h => Nat.mul_le_mul_right _ h
                rw [Nat.add_mul] at m1 m2
                rw [hcl', if_neg (by omega)]
                have := hcy j hj
                rw [← this]
                show _ = w.cell? ⟨μ id, _, none⟩
                rw [cell_of_row _ _ _ _ _ _ h1']
                simp
          unfold Oper.wp
          by_cases h0 : n = 0
          · subst h0
            have hrun : (execOp a.eval o).run P w = .ok (.value (.tuple #[])) w := by
              have hev : a.eval x = .slice ao 0 cp := hv
              cases ao <;> simp [execOp, ho, hev, resolve, invoke, builtin, Builtin.clear_, run_underlying hu]
            rw [hrun, Oper.upon_value, hd]
            exact hn μ κ _ _ (fin w (.inl ⟨rfl, rfl⟩))
          · have hao := ha (.inl (by omega))
            subst hao
            have hrun : (execOp a.eval o).run P w = .ok (.value (.tuple #[])) (w.setRow (μ id) ⟨overV cur.toList (off * k) cs⟩) := by
              have hev : a.eval x = .slice (some ⟨μ id, off * k, none⟩) n cp := hv
              have hst := run_storeCells_at P (μ id) (off * k) (T t).elem cs 0 cur w h1' (by omega) hone
              obtain ⟨m, rfl⟩ : ∃ m, n = m + 1 := ⟨n - 1, by omega⟩
              simp [execOp, ho, hev, resolve, invoke, builtin, Builtin.clear_, run_underlying hu, hzv]
              have hst' : (storeCells ⟨μ id, off * k, none⟩ (Builtin.zeroCells z.cells (m + 1)).toList).run P w = .ok () (w.setRow (μ id) ⟨overV cur.toList (off * k) cs⟩) := by
                simpa only [overV, Nat.add_zero] using hst
              rw [hst']
              rfl
            rw [hrun, Oper.upon_value, hd]
            exact hn μ κ _ _ (fin _ (.inr ⟨rfl, by omega⟩))
    | _ => rw [hx] at hob; exact hob.elim

end
end Go.Ideal

/- Every operation; regions in the text's order; code; functions. -/
set_option linter.unusedVariables false
set_option linter.unusedSimpArgs false
namespace Go.Ideal
open Go

def badE : Eff := { ob := False, tv := [], hv := [] }

def effOp (T : Nat → TD) (G : List (Nat × PSpec)) (N : Nat) (ops : List Oper) (o : Oper) (s : ISt) : Eff :=
  match o.op with
  | .pick c x y => effPick N ops o c x y s
  | .alloc t => effAlloc T N ops o t s
  | .box t x => effBox T N ops o t x s
  | .buildSlice t n parts => effBuildSlice T N ops o t n parts.toList s
  | .makeSlice t l c => effMake T N ops o t l c s
  | .store t p x => effStore T N ops o t p x s
  | .call { callee := .builtin .append, args := args, argTypes := tys } =>
    match args.toList, tys.toList with
    | [sx, x], [t, t'] => if t = t' then effAppend T N ops o t sx x s else effZeros T N ops o t t' sx x s
    | _, _ => badE
  | .call { callee := .builtin .clear, args := args, argTypes := tys } =>
    match args.toList, tys.toList with
    | [x], [t] => effClear T N ops o t x s
    | _, _ => badE
  | .call { callee := .value fx, args := args, .. } => effCall G N ops o fx args.toList s
  | _ => effPure T N ops o s

/-- What a list of operations asks, one after the other, and then K of the state that they leave. -/
def vcOps (T : Nat → TD) (G : List (Nat × PSpec)) (N : Nat) (ops : List Oper) : List Oper → ISt → (ISt → Prop) → Prop
  | [], s, K => K s
  | o :: l, s, K => (effOp T G N ops o s).ob ∧ vcOps T G N ops l (s.app (effOp T G N ops o s)) K

section
variable {P : Program} {T : Nat → TD} {G : List (Nat × PSpec)} {F : Fr}

theorem effOp_sound (hT : TOK P T) (hG : GOKF P F G) {ops : List Oper} {o : Oper} {s : ISt} (hob : (effOp T G F.N ops o s).ob) : StepOK P F ops o s (effOp T G F.N ops o s) := by
  unfold effOp at hob ⊢
  split at hob
  · rename_i c x y ho; exact effPick_sound ops o ho s hob
  · rename_i t ho; exact effAlloc_sound hT ho hob
  · rename_i t x ho; exact effBox_sound ho hob
  · rename_i t n parts ho; exact effBuildSlice_sound hT ho hob
  · rename_i t l c ho; exact effMake_sound hT ho hob
  · rename_i t p x ho; exact effStore_sound hT ho hob
  · rename_i args tys ho
    obtain ⟨args⟩ := args
    obtain ⟨tys⟩ := tys
    split at hob
    · rename_i sx x t t' h1 h2
      simp only at h1 h2
      subst h1 h2
      split at hob
      · rename_i ht
        subst ht
        simp only [if_true]
        exact effAppend_sound hT ho hob
      · rename_i ht
        simp only [if_neg ht]
        exact effZeros_sound hT ho hob
    · exact hob.elim
  · rename_i args tys ho
    obtain ⟨args⟩ := args
    obtain ⟨tys⟩ := tys
    split at hob
    · rename_i x t h1 h2
      simp only at h1 h2
      subst h1 h2
      exact effClear_sound hT ho hob
    · exact hob.elim
  · rename_i fx args tys ho; exact effCall_sound hG ho hob
  · exact effPure_sound hT ops o s hob

theorem wpList_vc (hT : TOK P T) (hG : GOKF P F G) {ops : List Oper} {Q : Exit → Act → World → Prop} {K : ISt → Prop} (hK : ∀ s μ κ a w, RepS F μ κ s a w → K s → Q .normal a w) :
    ∀ (l : List Oper) (s : ISt), vcOps T G F.N ops l s K → ∀ μ κ a w, RepS F μ κ s a w → wpList P ⟨ops⟩ Q l a w
  | [], s, h, μ, κ, a, w, R => hK s μ κ a w R h
  | o :: l, s, h, μ, κ, a, w, R => by
    simp only [vcOps] at h
    unfold wpList
    exact effOp_sound hT hG h.1 μ κ a w R Q _ (fun μ' κ' a' w' R' => wpList_vc hT hG hK l _ h.2 μ' κ' a' w' R')

/-- Code, at an ideal state. -/
def IWp (P : Program) (F : Fr) (c : Code) (s : ISt) (Q : Exit → ISt → Prop) : Prop :=
  ∀ μ κ a w, RepS F μ κ s a w → c.wp P (fun e a' w' => ∃ μ' κ' s', RepS F μ' κ' s' a' w' ∧ Q e s') a w

theorem iwp_region (hT : TOK P T) (hG : GOKF P F G) {id : Nat} {ops : Array Oper} {s : ISt} {Q : Exit → ISt → Prop} (h : vcOps T G F.N ops.toList ops.toList s (Q .normal)) : IWp P F (.region id ops false) s Q := by
  intro μ κ a w R
  refine wp_region_list ?_
  have : ops = ⟨ops.toList⟩ := by simp
  rw [this]
  exact wpList_vc hT hG (fun s' μ' κ' a' w' R' hK => ⟨μ', κ', s', R', hK⟩) _ _ h μ κ a w R

theorem iwp_mono {c : Code} {s : ISt} {Q Q' : Exit → ISt → Prop} (h : IWp P F c s Q) (hq : ∀ e s, Q e s → Q' e s) : IWp P F c s Q' :=
  fun μ κ a w R => Go.wp_mono (h μ κ a w R) fun e a' w' ⟨μ', κ', s', R', q⟩ => ⟨μ', κ', s', R', hq _ _ q⟩

def seqQ (P : Program) (F : Fr) (y : Code) (Q : Exit → ISt → Prop) : Exit → ISt → Prop
  | .normal, s => IWp P F y s Q
  | e, s => Q e s
theorem iwp_seq {x y : Code} {s : ISt} {Q : Exit → ISt → Prop} (h : IWp P F x s (seqQ P F y Q)) : IWp P F (.seq x y) s Q := by
  intro μ κ a w R
  refine wp_seq (Go.wp_mono (h μ κ a w R) ?_)
  rintro e a' w' ⟨μ', κ', s', R', q⟩
  cases e with
  | normal => exact q μ' κ' a' w' R'
  | _ => exact ⟨μ', κ', s', R', q⟩

theorem iwp_skip {s : ISt} {Q : Exit → ISt → Prop} (h : Q .normal s) : IWp P F .skip s Q := fun μ κ a w R => wp_skip ⟨μ, κ, s, R, h⟩
theorem iwp_ret {s : ISt} {Q : Exit → ISt → Prop} (h : Q .ret s) : IWp P F .ret s Q := fun μ κ a w R => wp_ret ⟨μ, κ, s, R, h⟩
theorem iwp_exit {id : Nat} {s : ISt} {Q : Exit → ISt → Prop} (h : Q (.exit id) s) : IWp P F (.exit id) s Q := fun μ κ a w R => wp_exit ⟨μ, κ, s, R, h⟩

def blockQ (id : Nat) (Q : Exit → ISt → Prop) : Exit → ISt → Prop
  | .exit id', s => if id' = id then Q .normal s else Q (.exit id') s
  | e, s => Q e s
theorem iwp_block {id : Nat} {c : Code} {s : ISt} {Q : Exit → ISt → Prop} (h : IWp P F c s (blockQ id Q)) : IWp P F (.block id c) s Q := by
  intro μ κ a w R
  refine wp_block (Go.wp_mono (h μ κ a w R) ?_)
  rintro e a' w' ⟨μ', κ', s', R', q⟩
  cases e with
  | exit id' =>
    simp only [blockQ, Exit.inBlock] at q ⊢
    split
    · rename_i h; rw [if_pos h] at q; exact ⟨μ', κ', s', R', q⟩
    · rename_i h; rw [if_neg h] at q; exact ⟨μ', κ', s', R', q⟩
  | _ => exact ⟨μ', κ', s', R', q⟩

theorem iwp_cond {c : Operand} {x y : Code} {s : ISt} {Q : Exit → ISt → Prop} {b : Bool} (hc : opI s.tm c = .bool b) (ht : b = true → IWp P F x s Q) (hf : b = false → IWp P F y s Q) : IWp P F (.cond c x y) s Q := by
  intro μ κ a w R
  have hr := opI_rep R c
  rw [hc] at hr
  simp only [RepV] at hr
  exact wp_cond_split hr (fun h => ht h μ κ a w R) (fun h => hf h μ κ a w R)

theorem iwp_cond_any {c : Operand} {x y : Code} {s : ISt} {Q : Exit → ISt → Prop} (hc : opI s.tm c = .anyB) (ht : IWp P F x s Q) (hf : IWp P F y s Q) : IWp P F (.cond c x y) s Q := by
  intro μ κ a w R
  have hr := opI_rep R c
  rw [hc] at hr
  simp only [RepV] at hr
  obtain ⟨b, hr⟩ := hr
  exact wp_cond_split hr (fun h => ht μ κ a w R) (fun h => hf μ κ a w R)

/-- A loop: what holds at each round's head, by a number that goes down. -/
theorem iwp_loop {c : Code} {s : ISt} {Q : Exit → ISt → Prop} (I : Nat → ISt → Prop) (n : Nat) (h0 : I n s)
    (round : ∀ n s, I n s → IWp P F c s (fun e s' => match e with | .normal => ∃ m, m < n ∧ I m s' | e => Q e s')) : IWp P F (.loop c) s Q := by
  intro μ κ a w R b k cs
  have key : ∀ n μ κ s a w, I n s → RepS F μ κ s a w →
      ∃ e a' w', (∃ μ' κ' s', RepS F μ' κ' s' a' w' ∧ Q e s') ∧ Arrives P (lone (b.at a (.code c :: .inLoop c :: k)) cs w) b k cs e a' w' := by
    intro n
    induction n using Nat.strongRecOn with
    | _ n ih =>
      intro μ κ s a w hI R
      obtain ⟨e, a₁, w₁, ⟨μ', κ', s', R', hq⟩, harr⟩ := round n s hI μ κ a w R b (.inLoop c :: k) cs
      cases e with
      | normal =>
        obtain ⟨m, hlt, hI'⟩ := hq
        obtain ⟨e₂, a₂, w₂, hq₂, harr₂⟩ := ih m hlt μ' κ' s' a₁ w₁ hI' R'
        exact ⟨e₂, a₂, w₂, hq₂, .of_steps (Steps.trans harr (.one step_inLoop)) harr₂⟩
      | exit id => exact ⟨_, a₁, w₁, ⟨μ', κ', s', R', hq⟩, .pass (x := .inLoop c) rfl (fun _ _ => .inl (by simp)) harr⟩
      | goto l => exact ⟨_, a₁, w₁, ⟨μ', κ', s', R', hq⟩, .pass (x := .inLoop c) rfl (fun _ _ => .inl (by simp)) harr⟩
      | ret => exact ⟨_, a₁, w₁, ⟨μ', κ', s', R', hq⟩, .pass (x := .inLoop c) rfl (fun _ _ => .inl (by simp)) harr⟩
      | panic ch => exact ⟨_, a₁, w₁, ⟨μ', κ', s', R', hq⟩, .pass (x := .inLoop c) rfl (fun _ _ => .inl (by simp)) harr⟩
      | outgrown => exact ⟨_, a₁, w₁, ⟨μ', κ', s', R', hq⟩, .pass (x := .inLoop c) rfl (fun _ _ => .inl (by simp)) harr⟩
  obtain ⟨e, a', w', hq, harr⟩ := key n μ κ s a w h0 R
  exact ⟨e, a', w', hq, .of_steps (.one step_loop) harr⟩

end

end Go.Ideal

/- A state given up for another that says no more; what a function returns. -/
set_option linter.unusedVariables false
set_option linter.unusedSimpArgs false
namespace Go.Ideal
open Go

/-- x, in a state with blocks h, reads as y in one with blocks h', whose ids are those of h under ρ. -/
def conv0 (h h' : Nat → Option IBlk) (ρ : Nat → Nat) (x : IV) : IV → Prop
  | .junk => True
  | .sl k es =>
    match x with
    | .nils => es = []
    | .ref id off n _ => ∃ ty es0, h id = some (.arr k ty es0) ∧ off + n ≤ es0.length ∧ es = (es0.drop off).take n ∧ ∀ id', (h' id').isSome = true → ρ id' ≠ id
    | .sl k' es' => k' = k ∧ es' = es
    | _ => False
  | .ref id' off' n' f' =>
    match x with
    | .ref id off n f => (h' id').isSome = true ∧ id = ρ id' ∧ off = off' ∧ n = n' ∧ (f' = true → f = true)
    | _ => False
  | .ptr id' off' =>
    match x with
    | .ptr id off => (h' id').isSome = true ∧ id = ρ id' ∧ off = off'
    | _ => False
  | y => x = y ∧ clean y = true

mutual
def conv (h h' : Nat → Option IBlk) (ρ : Nat → Nat) (x : IV) : IV → Prop
  | .clo g l' => match x with | .clo g0 l => g0 = g ∧ convL h h' ρ l l' | _ => False
  | .agg l' => match x with | .agg l => convL h h' ρ l l' | _ => False
  | .tup l' => match x with | .tup l => convL h h' ρ l l' | _ => False
  | y => conv0 h h' ρ x y
def convL (h h' : Nat → Option IBlk) (ρ : Nat → Nat) (l : List IV) : List IV → Prop
  | [] => l = []
  | y :: l' => match l with | x :: r => conv h h' ρ x y ∧ convL h h' ρ r l' | [] => False
end

def convB (h h' : Nat → Option IBlk) (ρ : Nat → Nat) : Option IBlk → IBlk → Prop
  | some (.arr k ty es), .arr k' ty' es' => k = k' ∧ ty = ty' ∧ es' = es.take es'.length
  | some (.box ty cells), .box ty' cells' => ty = ty' ∧ convL h h' ρ cells cells'
  | _, _ => False

def convTm (h h' : Nat → Option IBlk) (ρ : Nat → Nat) (tm : List (Nat × IV)) : List (Nat × IV) → Prop
  | [] => True
  | (i, y) :: l => conv h h' ρ (lkT tm i) y ∧ convTm h h' ρ tm l
def convHp (h h' : Nat → Option IBlk) (ρ : Nat → Nat) : List (Nat × Option IBlk) → Prop
  | [] => True
  | (i, some b) :: l => convB h h' ρ (h (ρ i)) b ∧ convHp h h' ρ l
  | (_, none) :: l => convHp h h' ρ l

def SLe0 (ρ : Nat → Nat) (s s' : ISt) : Prop :=
  convTm (lkH s.hp) (lkH s'.hp) ρ s.tm s'.tm ∧ convHp (lkH s.hp) (lkH s'.hp) ρ s'.hp ∧ (s'.hp.map fun p => ρ p.1).Nodup
def SLe (ρ : Nat → Nat) (s s' : ISt) : Prop := SLe0 ρ s s' ∧ ∀ id, 1000 ≤ id → id < 2000 → ρ id = id

/-- The memory's part of what a state stands for. -/
structure RepH (F : Fr) (μ κ : Nat → Nat) (hp : List (Nat × Option IBlk)) (w : World) : Prop where
  chg : Chg F.B0 F.w0 w
  inj : ∀ i j, lkH hp i ≠ none → lkH hp j ≠ none → μ i = μ j → i = j
  own : ∀ id blk, lkH hp id = some blk → RepB (ctx F μ κ hp w) id blk ∧ ¬ F.A (μ id) ∧ (F.B0 (μ id) ∨ F.w0.heap.size ≤ μ id)
  pin : ∀ id, 1000 ≤ id → id < 2000 → μ id = F.μ0 id ∧ κ id = F.κ0 id

theorem RepS.toH {F : Fr} {μ κ : Nat → Nat} {s : ISt} {a : Act} {w : World} (R : RepS F μ κ s a w) : RepH F μ κ s.hp w := ⟨R.chg, R.inj, R.own, R.pin⟩

theorem RepH.lt {F : Fr} {μ κ : Nat → Nat} {hp : List (Nat × Option IBlk)} {w : World} (R : RepH F μ κ hp w) {id : Nat} {b : IBlk} (hb : lkH hp id = some b) : μ id < w.heap.size := by
  obtain ⟨hB, _⟩ := R.own id b hb
  cases b with
  | box ty cells => obtain ⟨cs, h1, _⟩ := hB; exact (Array.getElem?_eq_some_iff.1 h1).1
  | arr k ty es => obtain ⟨cur, h1, _⟩ := hB; exact (Array.getElem?_eq_some_iff.1 h1).1

section
variable {P : Program} {F : Fr} {μ κ : Nat → Nat} {s s' : ISt} {a : Act} {w : World} {ρ : Nat → Nat}

theorem convHp_lk {h h' : Nat → Option IBlk} : ∀ {hp : List (Nat × Option IBlk)}, convHp h h' ρ hp → ∀ i b, lkH hp i = some b → convB h h' ρ (h (ρ i)) b
  | [], _, i, b, hb => by simp [lkH] at hb
  | (j, c) :: hp, hc, i, b, hb => by
    simp only [lkH] at hb
    split at hb
    · rename_i h; subst h hb
      exact hc.1
    · refine convHp_lk (hp := hp) ?_ i b hb
      cases c with
      | none => exact hc
      | some x => exact hc.2

theorem convTm_lk {h h' : Nat → Option IBlk} {tm : List (Nat × IV)} : ∀ {tm' : List (Nat × IV)}, convTm h h' ρ tm tm' → ∀ i, conv h h' ρ (lkT tm i) (lkT tm' i)
  | [], _, i => by simp [lkT, conv, conv0]
  | (j, y) :: tm', hc, i => by
    simp only [lkT]
    split
    · rename_i h; subst h; exact hc.1
    · exact convTm_lk hc.2 i

theorem lkH_key : ∀ {hp : List (Nat × Option IBlk)} {i : Nat}, lkH hp i ≠ none → i ∈ hp.map Prod.fst
  | [], i, h => absurd rfl h
  | (j, c) :: hp, i, h => by
    simp only [lkH] at h
    by_cases hj : j = i
    · simp [hj]
    · rw [if_neg hj] at h
      have := lkH_key h
      simp only [List.map_cons, List.mem_cons]
      exact .inr this

theorem inj_of_nodup : ∀ {hp : List (Nat × Option IBlk)}, (hp.map fun p => ρ p.1).Nodup → ∀ i j, i ∈ hp.map Prod.fst → j ∈ hp.map Prod.fst → ρ i = ρ j → i = j
  | [], _, i, j, hi, _, _ => by simp at hi
  | (q, c) :: hp, hn, i, j, hi, hj, e => by
    simp only [List.map_cons, List.nodup_cons] at hn
    simp only [List.map_cons, List.mem_cons] at hi hj
    have hmem : ∀ x, x ∈ hp.map Prod.fst → ρ x ∈ hp.map fun p => ρ p.1 := fun x hx => by
      rw [List.mem_map] at hx ⊢
      obtain ⟨p, hp, rfl⟩ := hx
      exact ⟨p, hp, rfl⟩
    rcases hi with rfl | hi <;> rcases hj with rfl | hj
    · rfl
    · exact absurd (e ▸ hmem j hj) hn.1
    · exact absurd (e ▸ hmem i hi) hn.1
    · exact inj_of_nodup hn.2 i j hi hj e

theorem shape_of_convB {h h' : Nat → Option IBlk} {o : Option IBlk} {b : IBlk} (hc : convB h h' ρ o b) : o.map IBlk.shape = some b.shape := by
  cases o with
  | none => simp [convB] at hc
  | some c => cases c <;> cases b <;> simp [convB] at hc <;> simp [IBlk.shape, hc]

theorem conv0_rep (R : RepH F μ κ s.hp w) (hL : SLe0 ρ s s') : ∀ (x y : IV) (v : Value), conv0 (lkH s.hp) (lkH s'.hp) ρ x y → RepV (ctx F μ κ s.hp w) x v →
    RepV (ctx F (fun i => μ (ρ i)) (fun i => κ (ρ i)) s'.hp w) y v := by
  obtain ⟨hT, hH, hN⟩ := hL
  have hpres : ∀ i, lkH s'.hp i ≠ none → lkH s.hp (ρ i) ≠ none := by
    intro i hi
    cases hb : lkH s'.hp i with
    | none => exact absurd hb hi
    | some b =>
      have := shape_of_convB (convHp_lk hH i b hb)
      intro h0
      rw [h0] at this
      simp at this
  have hsh : ∀ i k, (lkH s'.hp i).map IBlk.shape = some k → (lkH s.hp (ρ i)).map IBlk.shape = some k := by
    intro i k hk
    cases hb : lkH s'.hp i with
    | none => rw [hb] at hk; simp at hk
    | some b =>
      rw [hb] at hk
      rw [shape_of_convB (convHp_lk hH i b hb)]
      exact hk
  have hle : (ctx F μ κ s.hp w).Le (ctx F (fun i => μ (ρ i)) (fun i => κ (ρ i)) s'.hp w) (fun _ => False) :=
    ⟨fun _ h => h.elim, fun b _ hav => by
      rcases hav with h | ⟨i, hi, h⟩
      · exact .inl h
      · exact .inr ⟨ρ i, hpres i hi, h⟩, Nat.le_refl _, fun _ _ _ _ => rfl⟩
  have hclean : ∀ (y : IV) (v : Value), clean y = true → RepV (ctx F μ κ s.hp w) y v → RepV (ctx F (fun i => μ (ρ i)) (fun i => κ (ρ i)) s'.hp w) y v :=
    fun y v hy h => RepV.mono hle y v (fun id hm => by rw [clean_ment y hy] at hm; cases hm) h
  intro x y v hc hx
  cases y with
  | junk => simp [RepV]
  | sl k es =>
    simp only [conv0] at hc
    cases x with
    | nils =>
      simp only at hc
      subst hc
      simp only [RepV] at hx ⊢
      exact ⟨none, 0, 0, hx, rfl, Nat.le_refl _, Nat.zero_le _, fun _ => rfl, fun _ => rfl, fun h => absurd h (Nat.lt_irrefl _)⟩
    | sl k' es' =>
      obtain ⟨rfl, rfl⟩ := hc
      exact hclean _ v rfl hx
    | ref id off n f =>
      obtain ⟨ty, es0, hb, hfit, rfl, hnot⟩ := hc
      obtain ⟨⟨cur, hheap, h2, h3, h4, h5, h6, h7⟩, hA, _⟩ := R.own id _ hb
      simp only [RepV] at hx ⊢
      obtain ⟨ao, cp, rfl, han, hx⟩ := hx
      obtain ⟨hn, hcap, _, ha⟩ := hx k h4 (by show (lkH s.hp id).map _ = _; rw [hb]; rfl)
      have h3' : κ id ≤ maxLen := h3
      have hcap' : off + cp ≤ κ id := hcap
      refine ⟨ao, n, cp, rfl, by simp; omega, hn, by omega, han, (h6.drop off).take n, fun h0 => ?_⟩
      refine ⟨μ id, off * k, ha (.inl h0), ?_, R.lt hb, ?_⟩
      · rintro (h | ⟨i, hi, h⟩)
        · exact hA h
        · have hi' : (lkH s'.hp i).isSome = true := by
            cases hb' : lkH s'.hp i with
            | none => exact absurd hb' hi
            | some b => rfl
          exact hnot i hi' (R.inj (ρ i) id (hpres i hi) (by rw [hb]; simp) h)
      · have hR := (h7.drop off (by omega)).take n
        obtain ⟨xs, hX, hcl⟩ := hR.toX
        exact (hX.mono hle (fun j hj => by rw [(h6.drop off).take n j] at hj; cases hj)).toR (fun j u hu => by have := hcl j u hu; rwa [Nat.zero_add] at this)
    | _ => exact hc.elim
  | ref id' off' n' f' =>
    simp only [conv0] at hc
    cases x with
    | ref id off n f =>
      obtain ⟨hs, rfl, rfl, rfl, hf⟩ := hc
      simp only [RepV] at hx ⊢
      obtain ⟨ao, cp, rfl, han, hx⟩ := hx
      refine ⟨ao, cp, rfl, han, fun k hk hsk => ?_⟩
      obtain ⟨h1, h2, h3, h4⟩ := hx k hk (hsh id' k hsk)
      exact ⟨h1, h2, fun h => h3 (hf h), h4⟩
    | _ => exact hc.elim
  | ptr id' off' =>
    simp only [conv0] at hc
    cases x with
    | ptr id off =>
      obtain ⟨hs, rfl, rfl⟩ := hc
      simp only [RepV] at hx ⊢
      obtain ⟨ao, rfl, hx⟩ := hx
      exact ⟨ao, rfl, fun hsk => hx (hsh id' 0 hsk)⟩
    | _ => exact hc.elim
  | _ => obtain ⟨rfl, hcl⟩ := hc; exact hclean _ v hcl hx

mutual
theorem conv_rep (R : RepH F μ κ s.hp w) (hL : SLe0 ρ s s') (x : IV) : ∀ (y : IV) (v : Value), conv (lkH s.hp) (lkH s'.hp) ρ x y → RepV (ctx F μ κ s.hp w) x v →
    RepV (ctx F (fun i => μ (ρ i)) (fun i => κ (ρ i)) s'.hp w) y v
  | .clo g l', v, hc, hx => by
    cases x with
    | clo g0 l =>
      simp only [conv] at hc
      obtain ⟨rfl, hc⟩ := hc
      simp only [RepV] at hx ⊢
      obtain ⟨cs, rfl, hl⟩ := hx
      exact ⟨cs, rfl, convL_rep R hL l l' cs hc hl⟩
    | _ => simp [conv] at hc
  | .agg l', v, hc, hx => by
    cases x with
    | agg l =>
      simp only [conv] at hc
      simp only [RepV] at hx ⊢
      obtain ⟨cs, rfl, hl⟩ := hx
      exact ⟨cs, rfl, convL_rep R hL l l' cs hc hl⟩
    | _ => simp [conv] at hc
  | .tup l', v, hc, hx => by
    cases x with
    | tup l =>
      simp only [conv] at hc
      simp only [RepV] at hx ⊢
      obtain ⟨cs, rfl, hl⟩ := hx
      exact ⟨cs, rfl, convL_rep R hL l l' cs hc hl⟩
    | _ => simp [conv] at hc
  | .junk, v, hc, hx => conv0_rep R hL x _ v (by simpa only [conv] using hc) hx
  | .num _ _, v, hc, hx => conv0_rep R hL x _ v (by simpa only [conv] using hc) hx
  | .bool _, v, hc, hx => conv0_rep R hL x _ v (by simpa only [conv] using hc) hx
  | .str _, v, hc, hx => conv0_rep R hL x _ v (by simpa only [conv] using hc) hx
  | .sl _ _, v, hc, hx => conv0_rep R hL x _ v (by simpa only [conv] using hc) hx
  | .nils, v, hc, hx => conv0_rep R hL x _ v (by simpa only [conv] using hc) hx
  | .nilp, v, hc, hx => conv0_rep R hL x _ v (by simpa only [conv] using hc) hx
  | .nilI, v, hc, hx => conv0_rep R hL x _ v (by simpa only [conv] using hc) hx
  | .ptr _ _, v, hc, hx => conv0_rep R hL x _ v (by simpa only [conv] using hc) hx
  | .aptr _ _ _, v, hc, hx => conv0_rep R hL x _ v (by simpa only [conv] using hc) hx
  | .eptr _ _ _, v, hc, hx => conv0_rep R hL x _ v (by simpa only [conv] using hc) hx
  | .ref _ _ _ _, v, hc, hx => conv0_rep R hL x _ v (by simpa only [conv] using hc) hx
  | .opt _ _, v, hc, hx => conv0_rep R hL x _ v (by simpa only [conv] using hc) hx
  | .ifc, v, hc, hx => conv0_rep R hL x _ v (by simpa only [conv] using hc) hx
  | .anyB, v, hc, hx => conv0_rep R hL x _ v (by simpa only [conv] using hc) hx
  | .lsl _ _ _, v, hc, hx => conv0_rep R hL x _ v (by simpa only [conv] using hc) hx
theorem convL_rep (R : RepH F μ κ s.hp w) (hL : SLe0 ρ s s') (l : List IV) : ∀ (l' : List IV) (vs : List Value), convL (lkH s.hp) (lkH s'.hp) ρ l l' → RepL (ctx F μ κ s.hp w) l vs →
    RepL (ctx F (fun i => μ (ρ i)) (fun i => κ (ρ i)) s'.hp w) l' vs
  | [], vs, hc, h => by
    simp only [convL] at hc
    subst hc
    simpa [RepL] using h
  | y :: l', vs, hc, h => by
    cases l with
    | nil => simp [convL] at hc
    | cons x l =>
      simp only [convL] at hc
      simp only [RepL] at h ⊢
      obtain ⟨v, r, hv, hx, hl⟩ := h
      exact ⟨v, r, hv, conv_rep R hL x y v hc.1 hx, convL_rep R hL l l' r hc.2 hl⟩
end

theorem sle_own (R : RepH F μ κ s.hp w) (hL : SLe0 ρ s s') : (∀ i j, lkH s'.hp i ≠ none → lkH s'.hp j ≠ none → μ (ρ i) = μ (ρ j) → i = j) ∧
    (∀ i, lkH s'.hp i ≠ none → lkH s.hp (ρ i) ≠ none) ∧
    ∀ id blk, lkH s'.hp id = some blk → RepB (ctx F (fun i => μ (ρ i)) (fun i => κ (ρ i)) s'.hp w) id blk ∧ ¬ F.A (μ (ρ id)) ∧ (F.B0 (μ (ρ id)) ∨ F.w0.heap.size ≤ μ (ρ id)) := by
  have hL' := hL
  obtain ⟨hT, hH, hN⟩ := hL
  have hpres : ∀ i, lkH s'.hp i ≠ none → lkH s.hp (ρ i) ≠ none := by
    intro i hi
    cases hb : lkH s'.hp i with
    | none => exact absurd hb hi
    | some b =>
      have := shape_of_convB (convHp_lk hH i b hb)
      intro h0
      rw [h0] at this
      simp at this
  refine ⟨fun i j hi hj e => ?_, hpres, fun id blk hb => ?_⟩
  · exact inj_of_nodup hN i j (lkH_key hi) (lkH_key hj) (R.inj _ _ (hpres i hi) (hpres j hj) e)
  · have hc := convHp_lk hH id blk hb
    cases hb0 : lkH s.hp (ρ id) with
    | none => rw [hb0] at hc; cases blk <;> exact hc.elim
    | some b0 =>
      rw [hb0] at hc
      obtain ⟨hB, hr⟩ := R.own _ _ hb0
      refine ⟨?_, hr⟩
      cases b0 with
      | box ty cells =>
        cases blk with
        | arr k ty es => exact hc.elim
        | box ty' cells' =>
          obtain ⟨rfl, hcl⟩ := hc
          obtain ⟨cs, h1, h2, h3⟩ := hB
          exact ⟨cs, h1, convL_rep R hL' _ _ _ hcl h2, h3⟩
      | arr k ty es =>
        cases blk with
        | box ty' cells' => exact hc.elim
        | arr k' ty' es' =>
          obtain ⟨rfl, rfl, hes⟩ := hc
          obtain ⟨cur, h1, h2, h3, h4, h5, h6, h7⟩ := hB
          have hlen : es'.length ≤ es.length := by rw [hes]; simp; omega
          refine ⟨cur, h1, h2, h3, h4, Nat.le_trans hlen h5, by rw [hes]; exact h6.take _, ?_⟩
          have hR := h7.take es'.length
          rw [← hes] at hR
          obtain ⟨xs, hX, hcl⟩ := hR.toX
          have hno : noIdL es' := by rw [hes]; exact h6.take _
          refine (hX.mono (c := ctx F μ κ s.hp w) (c' := ctx F (fun i => μ (ρ i)) (fun i => κ (ρ i)) s'.hp w) (ok := fun _ => False) ⟨fun _ h => h.elim, fun b _ hav => ?_, Nat.le_refl _, fun _ _ _ _ => rfl⟩ (fun j hj => by rw [hno j] at hj; cases hj)).toR hcl
          rcases hav with h | ⟨i, hi, h⟩
          · exact .inl h
          · exact .inr ⟨ρ i, hpres i hi, h⟩

theorem SLe.rep (R : RepS F μ κ s a w) (hL : SLe ρ s s') : RepS F (fun i => μ (ρ i)) (fun i => κ (ρ i)) s' a w := by
  obtain ⟨hL, hP⟩ := hL
  obtain ⟨h1, h2, h3⟩ := sle_own R.toH hL
  exact ⟨R.defers, R.size, R.chg, h1, h3, fun i => conv_rep R.toH hL _ _ _ (convTm_lk hL.1 i) (R.tmps i), fun id q1 q2 => by rw [hP id q1 q2]; exact R.pin id q1 q2⟩

theorem iwp_sle {c : Code} {Q : Exit → ISt → Prop} (ρ : Nat → Nat) (hL : SLe ρ s s') (h : IWp P F c s' Q) : IWp P F c s Q :=
  fun μ κ a w R => h _ _ a w (hL.rep R)

end

/-! ### a function's contract -/

def enumT : Nat → List IV → List (Nat × IV)
  | _, [] => []
  | i, x :: l => (i, x) :: enumT (i + 1) l

/-- What the slots of the results come to. -/
def Gives (res : Array ResultVar) (s : ISt) (v : IV) : Prop :=
  match res.toList with
  | [.tmp t] => conv (lkH s.hp) (fun _ => none) (fun i => i) (lkT s.tm t) v
  | [.tmp t, .tmp u] =>
    match v with
    | .tup [x, y] => conv (lkH s.hp) (fun _ => none) (fun i => i) (lkT s.tm t) x ∧ conv (lkH s.hp) (fun _ => none) (fun i => i) (lkT s.tm u) y
    | _ => False
  | [.tmp t, .tmp u, .tmp r] =>
    match v with
    | .tup [x, y, z] => conv (lkH s.hp) (fun _ => none) (fun i => i) (lkT s.tm t) x ∧ conv (lkH s.hp) (fun _ => none) (fun i => i) (lkT s.tm u) y ∧ conv (lkH s.hp) (fun _ => none) (fun i => i) (lkT s.tm r) z
    | _ => False
  | [] => v = .tup []
  | _ => False

/-- The end of a function's body. -/
def Fin (res : Array ResultVar) (v : IV) : Exit → ISt → Prop
  | .normal, s => Gives res s v
  | .ret, s => Gives res s v
  | _, _ => False

theorem lkT_enum : ∀ (l : List IV) (n i : Nat), n ≤ i → lkT (enumT n l) i = l.getD (i - n) .junk
  | [], n, i, h => by simp [enumT, lkT]
  | x :: l, n, i, h => by
    simp only [enumT, lkT]
    by_cases hn : n = i
    · subst hn; simp
    · rw [if_neg hn, lkT_enum l (n + 1) i (by omega)]
      have : i - n = (i - (n + 1)) + 1 := by omega
      rw [this]
      simp

theorem bare_ctx (A : Nat → Prop) (w : World) (F : Fr) (hA : F.A = A) (μ κ : Nat → Nat) (x : IV) (v : Value) : RepV (ctx F μ κ [] w) x v ↔ RepV (bare A w) x v := by
  have e1 : (ctx F μ κ [] w).Le (bare A w) (fun _ => True) := ⟨fun _ _ => .inl rfl, fun b _ h => .inl (by rw [hA]; exact h), Nat.le_refl _, fun _ _ _ _ => rfl⟩
  have e2 : (bare A w).Le (ctx F μ κ [] w) (fun _ => True) := ⟨fun _ _ => .inl rfl, fun b _ h => by
    rcases h with h | ⟨i, hi, _⟩
    · rw [hA] at h; exact h
    · exact absurd rfl hi, Nat.le_refl _, fun _ _ _ _ => rfl⟩
  exact ⟨RepV.mono e1 x v (fun _ _ => trivial), RepV.mono e2 x v (fun _ _ => trivial)⟩

theorem icall_at {P : Program} {f : FuncId} {fn : Func} {c : Code} {args : List IV} {v : IV} (w : World) (hf : P.funcs[f]? = some fn) (hb : fn.body = some c) (hn : args.length ≤ fn.ntmps) (hn2 : fn.ntmps ≤ 1000)
    (h : ∀ F : Fr, F.N = fn.ntmps → F.w0 = w → F.B0 = (fun _ => False) → IWp P F c ⟨enumT 0 args, []⟩ (Fin fn.results v)) (A : Nat → Prop) (as : List Value) (hA : ∀ b, A b → b < w.heap.size) (hL : RepL (bare A w) args as) :
    Calls P f ⟨as⟩ w fun e w' => ∃ x, e = .returned x ∧ Chg (fun _ => False) w w' ∧ RepV (bare A w') v x := by
  have hlen := hL.length
  let F : Fr := { A := A, B0 := fun _ => False, w0 := w, N := fn.ntmps, hAB := fun _ _ h => h, hA := hA, hB := fun _ h => h.elim, μ0 := fun i => i, κ0 := fun i => i, hN := hn2 }
  refine calls_of_wp hf hb (Go.wp_mono (h F rfl rfl rfl (fun i => i) (fun i => i) _ w ?_) ?_)
  · refine ⟨rfl, ?_, Chg.refl _ _, fun i j hi => absurd rfl hi, fun id blk hb => (by simp [lkH] at hb), fun i => ?_, fun _ _ _ => ⟨rfl, rfl⟩⟩
    · show (((⟨as⟩ : Array Value) ++ Array.replicate (fn.ntmps - (⟨as⟩ : Array Value).size) undef)).size = fn.ntmps
      simp; omega
    · rw [lkT_enum args 0 i (Nat.zero_le _), Nat.sub_zero]
      rw [bare_ctx A w F rfl]
      by_cases hi : i < args.length
      · obtain ⟨u, hu, hr⟩ := hL.get i hi
        have : ((⟨as⟩ : Array Value) ++ Array.replicate (fn.ntmps - (⟨as⟩ : Array Value).size) undef).getD i undef = u := by
          rw [Array.getD_eq_getD_getElem?, Array.getElem?_append_left (by simp; omega)]
          simp [hu]
        rw [this]
        exact hr
      · have : args.getD i .junk = .junk := by simp [List.getD, List.getElem?_eq_none (Nat.le_of_not_lt hi)]
        rw [this]
        simp [RepV]
  · intro e a w' ⟨μ, κ, s, R, hq⟩
    have fin : Gives fn.results s v → a.defers = [] ∧ ∃ x, (results fn a.tmps).run P w' = .ok x w' ∧ (∃ y, Ending.returned x = .returned y ∧ Chg (fun _ => False) w w' ∧ RepV (bare A w') v y) := by
      intro hg
      refine ⟨R.defers, ?_⟩
      have hchg : Chg (fun _ => False) w w' := R.chg
      have key : ∀ (t : Nat) (y : IV), conv (lkH s.hp) (fun _ => none) (fun i => i) (lkT s.tm t) y → RepV (bare A w') y (a.tmps.getD t undef) := by
        intro t y hc
        have hs : SLe0 (fun i => i) s ⟨[(t, y)], []⟩ := ⟨⟨hc, trivial⟩, trivial, by simp⟩
        have := conv_rep R.toH hs _ _ _ hc (R.tmps t)
        exact (bare_ctx A w' F rfl _ _ y _).1 this
      unfold Gives at hg
      split at hg
      · rename_i t hres
        have hr : fn.results = #[.tmp t] := by apply Array.ext'; simpa using hres
        exact ⟨_, results_tmp hr _ _ _, _, rfl, hchg, key t v hg⟩
      · rename_i t u hres
        split at hg
        · rename_i x y
          have hr : fn.results = #[.tmp t, .tmp u] := by apply Array.ext'; simpa using hres
          refine ⟨_, results_tmp2 hr _ _ _, _, rfl, hchg, ?_⟩
          simp only [RepV, RepL]
          exact ⟨_, rfl, _, _, rfl, key t x hg.1, _, _, rfl, key u y hg.2, rfl⟩
        · exact hg.elim
      · rename_i t u r hres
        split at hg
        · rename_i x y z
          have hr : fn.results = #[.tmp t, .tmp u, .tmp r] := by apply Array.ext'; simpa using hres
          refine ⟨.tuple #[a.tmps.getD t undef, a.tmps.getD u undef, a.tmps.getD r undef], by simp [results, hr], _, rfl, hchg, ?_⟩
          simp only [RepV, RepL]
          exact ⟨_, rfl, _, _, rfl, key t x hg.1, _, _, rfl, key u y hg.2.1, _, _, rfl, key r z hg.2.2, rfl⟩
        · exact hg.elim
      · rename_i hres
        have hr : fn.results = #[] := by apply Array.ext'; simpa using hres
        subst hg
        refine ⟨_, results_none hr _ _ _, _, rfl, hchg, ?_⟩
        simp only [RepV, RepL]
        exact ⟨_, rfl, rfl⟩
      · exact hg.elim
    cases e with
    | normal => exact fin hq
    | ret => exact fin hq
    | _ => exact hq.elim

theorem icall_of {P : Program} {f : FuncId} {fn : Func} {c : Code} {args : List IV} {v : IV} (hf : P.funcs[f]? = some fn) (hb : fn.body = some c) (hn : args.length ≤ fn.ntmps) (hn2 : fn.ntmps ≤ 1000)
    (h : ∀ F : Fr, F.N = fn.ntmps → IWp P F c ⟨enumT 0 args, []⟩ (Fin fn.results v)) : ICall P f args v :=
  fun A w as hA hL => icall_at w hf hb hn hn2 (fun F hF _ _ => h F hF) A as hA hL

end Go.Ideal

/- Helpers for a table of types. -/
set_option linter.unusedVariables false
set_option linter.unusedSimpArgs false
namespace Go.Ideal
open Go

section
variable {P : Program}

theorem tyOK_mk {t : TypeId} {d : TD} {z : Value} {u : TypeDesc} (hi : (P.info? t).map (fun i => (i.size, i.bytes, i.zero)) = some (d.size, d.bytes, some z)) (hu : P.underlying t = some u)
    (he : EltOk d.size z) (hf : freeOK d.zero z.cells.toList) (ha : ∀ w, (isAgg t).run P w = .ok (decide (2 ≤ d.size)) w) (hs : d.elem ≠ 0 → P.underlying t = some (.slice d.elem))
    (hfd : ∀ (i o s : Nat), d.offs[i]? = some (o, s) → ∃ (fs : Array Field) (f : Field), P.underlying t = some (.struct fs) ∧ fs[i]? = some f ∧ f.offset = o ∧ s ≠ 0 ∧ (∀ w, (sizeOf f.type).run P w = .ok s w) ∧ (∀ w, (isAgg f.type).run P w = .ok (decide (2 ≤ s)) w) ∧ fs.size = d.offs.length)
    (hp : d.offs ≠ [] → ∃ (fs : Array Field), P.underlying t = some (.struct fs) ∧ ∀ w, (fs.mapM fun (f : Field) => (do pure (f.offset, ← sizeOf f.type) : Sem (Nat × Nat))).run P w = .ok (⟨d.offs⟩ : Array (Nat × Nat)) w)
    (h1 : ∀ k, d.ik = some k → P.underlying t = some (.int k)) (h2 : d.bl = true → P.underlying t = some .bool) (h3 : d.st = true → P.underlying t = some .string)
    (h4 : d.eqb = true → ∀ (op : BinOp) (x y : Operand) (xs ys : List Int) (w : World), xs.length = d.size → ys.length = d.size →
      (eqGuard op t x y (.agg ⟨xs.map (Value.int .i64)⟩) (.agg ⟨ys.map (Value.int .i64)⟩)).run P w = .ok () w ∧
      (Op.equal t (.agg ⟨xs.map (Value.int .i64)⟩) (.agg ⟨ys.map (Value.int .i64)⟩)).run P w = .ok (decide (xs = ys)) w)
    (h5 : d.alen ≠ 0 → P.underlying t = some (.array d.alen d.aelem) ∧ (∀ w, (sizeOf d.aelem).run P w = .ok 1 w) ∧ d.aoffs = (List.range d.alen).map fun i => (i, 1)) (h6 : d.ifc = true → ∃ ms, P.underlying t = some (.interface ms)) : TyOK P t d := by
  refine ⟨?_, ha, hs, hfd, h1, h2, h3, hp, h4, h5, h6⟩
  cases h : P.info? t with
  | none => rw [h] at hi; simp at hi
  | some i =>
    rw [h] at hi
    simp only [Option.map_some, Option.some.injEq, Prod.mk.injEq] at hi
    exact ⟨i, z, rfl, hi.1, hi.2.1, hi.2.2, he, hf⟩

/-- A field that is an int of 64 bits. -/
def IntF (P : Program) (f : Field) : Prop := f.name ≠ "_" ∧ P.underlying f.type = some (.int .i64)

theorem part_int {f : Field} (hf : IntF P f) (w : World) (cs : List Value) (v : Value) (h : cs[f.offset]? = some v) : (part f.type ⟨cs⟩ f.offset).run P w = .ok v w := by
  have e : (⟨cs⟩ : Array Value)[f.offset]? = some v := by simpa using h
  simp [part, isAgg, run_underlying hf.2, e]

theorem eqFields_cons {f : Field} (hf : IntF P f) (d : Nat) (w : World) (xs ys : List Value) (a b : Int) (ha : xs[f.offset]? = some (.int .i64 a)) (hb : ys[f.offset]? = some (.int .i64 b)) (fs : List Field) (r : Bool)
    (hr : (Op.eqFields (d + 1) ⟨xs⟩ ⟨ys⟩ fs).run P w = .ok r w) : (Op.eqFields (d + 1) ⟨xs⟩ ⟨ys⟩ (f :: fs)).run P w = .ok ((a == b) && r) w := by
  simp only [Op.eqFields, hf.1, ne_eq, not_false_eq_true, if_true, Sem.run_bind, part_int hf w _ _ ha, part_int hf w _ _ hb, Result.andThen_ok, run_equalIn_int _ _ _ _ _ _ _ hf.2]
  cases a == b <;> simp [hr]

theorem eqg_flat {t : TypeId} (hp : P.stoodInHeld t = false) (hm : P.eqGuardType P.depth t = false) {fs : List Field} (hu : P.underlying t = some (.struct ⟨fs⟩)) (n : Nat)
    (key : ∀ (d : Nat) (w : World) (xs ys : List Int), xs.length = n → ys.length = n → (Op.eqFields (d + 1) ⟨xs.map (Value.int .i64)⟩ ⟨ys.map (Value.int .i64)⟩ fs).run P w = .ok (decide (xs = ys)) w) :
    ∀ (op : BinOp) (x y : Operand) (xs ys : List Int) (w : World), xs.length = n → ys.length = n →
      (eqGuard op t x y (.agg ⟨xs.map (Value.int .i64)⟩) (.agg ⟨ys.map (Value.int .i64)⟩)).run P w = .ok () w ∧
      (Op.equal t (.agg ⟨xs.map (Value.int .i64)⟩) (.agg ⟨ys.map (Value.int .i64)⟩)).run P w = .ok (decide (xs = ys)) w := by
  intro op x y xs ys w hx hy
  refine ⟨run_eqGuard_agg w op t x y _ _ hm, ?_⟩
  have hF : P.fieldsOf t = ⟨fs⟩ := by simp [Program.fieldsOf, hu]
  unfold Op.equal Op.maxDepth
  rw [run_equalIn_struct w 9999 t _ _ (by rw [hF]; exact hu) hp, hF]
  exact key 9998 w xs ys hx hy

theorem eqg_flat2 {t : TypeId} (hp : P.stoodInHeld t = false) (hm : P.eqGuardType P.depth t = false) {fs : List Field} (hu : P.underlying t = some (.struct ⟨fs⟩)) (n : Nat)
    (key : ∀ (d : Nat) (w : World) (xs ys : List Int), xs.length = n → ys.length = n → (Op.eqFields (d + 2) ⟨xs.map (Value.int .i64)⟩ ⟨ys.map (Value.int .i64)⟩ fs).run P w = .ok (decide (xs = ys)) w) :
    ∀ (op : BinOp) (x y : Operand) (xs ys : List Int) (w : World), xs.length = n → ys.length = n →
      (eqGuard op t x y (.agg ⟨xs.map (Value.int .i64)⟩) (.agg ⟨ys.map (Value.int .i64)⟩)).run P w = .ok () w ∧
      (Op.equal t (.agg ⟨xs.map (Value.int .i64)⟩) (.agg ⟨ys.map (Value.int .i64)⟩)).run P w = .ok (decide (xs = ys)) w := by
  intro op x y xs ys w hx hy
  refine ⟨run_eqGuard_agg w op t x y _ _ hm, ?_⟩
  have hF : P.fieldsOf t = ⟨fs⟩ := by simp [Program.fieldsOf, hu]
  unfold Op.equal Op.maxDepth
  rw [run_equalIn_struct w 9999 t _ _ (by rw [hF]; exact hu) hp, hF]
  exact key 9997 w xs ys hx hy

theorem key2 {f0 f1 : Field} (h0 : IntF P f0) (h1 : IntF P f1) (o0 : f0.offset = 0) (o1 : f1.offset = 1) (d : Nat) (w : World) (xs ys : List Int) (hx : xs.length = 2) (hy : ys.length = 2) :
    (Op.eqFields (d + 1) ⟨xs.map (Value.int .i64)⟩ ⟨ys.map (Value.int .i64)⟩ [f0, f1]).run P w = .ok (decide (xs = ys)) w := by
  match xs, ys, hx, hy with
  | [a0, a1], [b0, b1], _, _ =>
    rw [eqFields_cons h0 d w _ _ a0 b0 (by simp [o0]) (by simp [o0]) _ _ (eqFields_cons h1 d w _ _ a1 b1 (by simp [o1]) (by simp [o1]) _ _ rfl)]
    congr 1
    by_cases e0 : a0 = b0 <;> by_cases e1 : a1 = b1 <;> simp [e0, e1]

theorem key3 {f0 f1 f2 : Field} (h0 : IntF P f0) (h1 : IntF P f1) (h2 : IntF P f2) (o0 : f0.offset = 0) (o1 : f1.offset = 1) (o2 : f2.offset = 2) (d : Nat) (w : World) (xs ys : List Int) (hx : xs.length = 3) (hy : ys.length = 3) :
    (Op.eqFields (d + 1) ⟨xs.map (Value.int .i64)⟩ ⟨ys.map (Value.int .i64)⟩ [f0, f1, f2]).run P w = .ok (decide (xs = ys)) w := by
  match xs, ys, hx, hy with
  | [a0, a1, a2], [b0, b1, b2], _, _ =>
    rw [eqFields_cons h0 d w _ _ a0 b0 (by simp [o0]) (by simp [o0]) _ _ (eqFields_cons h1 d w _ _ a1 b1 (by simp [o1]) (by simp [o1]) _ _ (eqFields_cons h2 d w _ _ a2 b2 (by simp [o2]) (by simp [o2]) _ _ rfl))]
    congr 1
    by_cases e0 : a0 = b0 <;> by_cases e1 : a1 = b1 <;> by_cases e2 : a2 = b2 <;> simp [e0, e1, e2]

/-- Two fields that are structs of two ints each. -/
theorem key22 {f0 f1 g0 g1 : Field} (n0 : f0.name ≠ "_") (n1 : f1.name ≠ "_") (p0 : P.stoodInHeld f0.type = false) (p1 : P.stoodInHeld f1.type = false) (u0 : P.underlying f0.type = some (.struct #[g0, g1])) (u1 : P.underlying f1.type = some (.struct #[g0, g1]))
    (s0 : ∀ w, (sizeOf f0.type).run P w = .ok 2 w) (s1 : ∀ w, (sizeOf f1.type).run P w = .ok 2 w)
    (h0 : IntF P g0) (h1 : IntF P g1) (q0 : g0.offset = 0) (q1 : g1.offset = 1) (o0 : f0.offset = 0) (o1 : f1.offset = 2) (d : Nat) (w : World) (xs ys : List Int) (hx : xs.length = 4) (hy : ys.length = 4) :
    (Op.eqFields (d + 2) ⟨xs.map (Value.int .i64)⟩ ⟨ys.map (Value.int .i64)⟩ [f0, f1]).run P w = .ok (decide (xs = ys)) w := by
  match xs, ys, hx, hy with
  | [a0, a1, a2, a3], [b0, b1, b2, b3], _, _ =>
    have hp0 : ∀ (x0 x1 x2 x3 : Int), (part f0.type ⟨[x0, x1, x2, x3].map (Value.int .i64)⟩ f0.offset).run P w = .ok (.agg ⟨[x0, x1].map (Value.int .i64)⟩) w := by
      intro x0 x1 x2 x3; simp [part, isAgg, run_underlying u0, s0, o0]
    have hp1 : ∀ (x0 x1 x2 x3 : Int), (part f1.type ⟨[x0, x1, x2, x3].map (Value.int .i64)⟩ f1.offset).run P w = .ok (.agg ⟨[x2, x3].map (Value.int .i64)⟩) w := by
      intro x0 x1 x2 x3; simp [part, isAgg, run_underlying u1, s1, o1]
    have F0 : P.fieldsOf f0.type = #[g0, g1] := by simp [Program.fieldsOf, u0]
    have F1 : P.fieldsOf f1.type = #[g0, g1] := by simp [Program.fieldsOf, u1]
    have e0 := run_equalIn_struct (P := P) w (d + 1) f0.type ⟨[a0, a1].map (Value.int .i64)⟩ ⟨[b0, b1].map (Value.int .i64)⟩ (by rw [F0]; exact u0) p0
    have e1 := run_equalIn_struct (P := P) w (d + 1) f1.type ⟨[a2, a3].map (Value.int .i64)⟩ ⟨[b2, b3].map (Value.int .i64)⟩ (by rw [F1]; exact u1) p1
    rw [F0] at e0
    rw [F1] at e1
    have k0 := key2 h0 h1 q0 q1 d w [a0, a1] [b0, b1] rfl rfl
    have k1 := key2 h0 h1 q0 q1 d w [a2, a3] [b2, b3] rfl rfl
    have e0' : (Op.equalIn (d + 2) f0.type (.agg ⟨[a0, a1].map (Value.int .i64)⟩) (.agg ⟨[b0, b1].map (Value.int .i64)⟩)).run P w = .ok (decide ([a0, a1] = [b0, b1])) w := e0.trans k0
    have e1' : (Op.equalIn (d + 2) f1.type (.agg ⟨[a2, a3].map (Value.int .i64)⟩) (.agg ⟨[b2, b3].map (Value.int .i64)⟩)).run P w = .ok (decide ([a2, a3] = [b2, b3])) w := e1.trans k1
    have t1 : (Op.eqFields (d + 2) ⟨[a0, a1, a2, a3].map (Value.int .i64)⟩ ⟨[b0, b1, b2, b3].map (Value.int .i64)⟩ [f1]).run P w = .ok (decide ([a2, a3] = [b2, b3])) w := by
      simp only [Op.eqFields, n1, ne_eq, not_false_eq_true, if_true, Sem.run_bind, hp1, Result.andThen_ok, e1']
      cases decide ([a2, a3] = [b2, b3]) <;> simp
    have hd : decide ([a0, a1, a2, a3] = [b0, b1, b2, b3]) = (decide ([a0, a1] = [b0, b1]) && decide ([a2, a3] = [b2, b3])) := by
      by_cases c0 : a0 = b0 <;> by_cases c1 : a1 = b1 <;> by_cases c2 : a2 = b2 <;> by_cases c3 : a3 = b3 <;> simp [c0, c1, c2, c3]
    rw [hd]
    unfold Op.eqFields
    simp only [n0, ne_eq, not_false_eq_true, if_true, Sem.run_bind, hp0, Result.andThen_ok, e0']
    cases decide ([a0, a1] = [b0, b1]) with
    | false => simp
    | true => simpa using t1

/-- A table as a list. -/
def lkD : List (Nat × TD) → Nat → TD
  | [], _ => { on := false }
  | (j, d) :: l, t => if j = t then d else lkD l t
def FOK (P : Program) : List (Nat × TD) → Prop
  | [] => True
  | (j, d) :: l => TyOK P j d ∧ FOK P l
theorem fok_nil : FOK P [] := trivial
theorem fok_cons {j : Nat} {d : TD} {l : List (Nat × TD)} (h : TyOK P j d) (hl : FOK P l) : FOK P ((j, d) :: l) := ⟨h, hl⟩
theorem lkD_ok : ∀ {l : List (Nat × TD)}, FOK P l → TOK P (lkD l)
  | [], _, t, h => by simp [lkD] at h
  | (j, d) :: l, hf, t, h => by
    unfold lkD at h ⊢
    by_cases e : j = t
    · rw [if_pos e]; exact e ▸ hf.1
    · rw [if_neg e] at h ⊢; exact lkD_ok hf.2 t h

end
end Go.Ideal

/- Code without loops, at one go: what it asks. -/
set_option linter.unusedVariables false
set_option linter.unusedSimpArgs false
namespace Go.Ideal
open Go

/-- After the first of two: a normal end goes on with K, any other is the end of both. -/
def seqK (K : ISt → Prop) (Q : Exit → ISt → Prop) : Exit → ISt → Prop
  | .normal, s => K s
  | .exit i, s => Q (.exit i) s
  | .goto l, s => Q (.goto l) s
  | .ret, s => Q .ret s
  | .panic c, s => Q (.panic c) s
  | .outgrown, s => Q .outgrown s

def asB : IV → Option (Option Bool)
  | .bool b => some (some b)
  | .anyB => some none
  | _ => none

section
variable {P : Program} {T : Nat → TD} {G : List (Nat × PSpec)} {F : Fr}

theorem asB_some {v : IV} {b : Bool} (h : asB v = some (some b)) : v = .bool b := by
  cases v <;> simp [asB] at h
  rw [h]
theorem asB_none {v : IV} (h : asB v = some none) : v = .anyB := by
  cases v <;> simp [asB] at h
  rfl


end
end Go.Ideal

/- What an operation looks at: the same there, the same effect. -/
set_option linter.unusedVariables false
set_option linter.unusedSimpArgs false
namespace Go.Ideal
open Go

section
variable {T : Nat → TD} {G : List (Nat × PSpec)} {N : Nat} {ops : List Oper} {o : Oper}

theorem loadV_congr {h h' : Nat → Option IBlk} {t : TypeId} {x : IV} (hh : ∀ id, x.ment id = true → h' id = h id) : loadV T h' t x = loadV T h t x := by
  cases x <;> simp only [loadV]
  · rw [hh _ (by simp [IV.ment])]
  · rw [hh _ (by simp [IV.ment])]
theorem faddrV_congr {h h' : Nat → Option IBlk} {t : TypeId} {f : Nat} {x : IV} (hh : ∀ id, x.ment id = true → h' id = h id) : faddrV T h' t f x = faddrV T h t f x := by
  cases x <;> simp only [faddrV]
  · rw [hh _ (by simp [IV.ment])]
  · rw [hh _ (by simp [IV.ment])]
theorem iaddrV_congr {h h' : Nat → Option IBlk} {t : TypeId} {x y : IV} (hh : ∀ id, x.ment id = true → h' id = h id) : iaddrV T h' t x y = iaddrV T h t x y := by
  cases x <;> cases y <;> simp only [iaddrV]
  · rw [hh _ (by simp [IV.ment])]
  · rw [hh _ (by simp [IV.ment])]
theorem lenV_congr {h h' : Nat → Option IBlk} {t : TypeId} {x : IV} (hh : ∀ id, x.ment id = true → h' id = h id) : lenV T h' t x = lenV T h t x := by
  cases x <;> simp only [lenV]
theorem sliceV_congr {h h' : Nat → Option IBlk} {t : TypeId} {x : IV} {lo hi mx : Option IV} (hh : ∀ id, x.ment id = true → h' id = h id) : sliceV T h' t x lo hi mx = sliceV T h t x lo hi mx := by
  cases x with
  | ref id off n full =>
    have e := hh id (by simp [IV.ment])
    rcases lo with _ | lo <;> rcases hi with _ | hi <;> rcases mx with _ | mx <;> (try rfl) <;> (try cases lo) <;> (try rfl) <;> (try cases hi) <;> (try rfl) <;> (try cases mx) <;> (try rfl) <;> simp only [sliceV, e]
  | _ => rcases lo with _ | lo <;> rcases hi with _ | hi <;> rcases mx with _ | mx <;> (try rfl) <;> (try cases lo) <;> (try rfl) <;> (try cases hi) <;> (try rfl) <;> (try cases mx) <;> rfl
theorem srcV_congr {h h' : Nat → Option IBlk} {k : Nat} {x : IV} (hh : ∀ id, x.ment id = true → h' id = h id) : srcV h' k x = srcV h k x := by
  cases x <;> simp only [srcV]
  rw [hh _ (by simp [IV.ment])]
theorem storeV_congr {h h' : Nat → Option IBlk} {t : TypeId} {x p : IV} (hh : ∀ id, p.ment id = true → h' id = h id) : storeV T h' t x p = storeV T h t x p := by
  cases p <;> simp only [storeV]
  · rw [hh _ (by simp [IV.ment])]
  · rw [hh _ (by simp [IV.ment])]
theorem lendP_congr {h h' : Nat → Option IBlk} {x : IV} (hh : ∀ id, x.ment id = true → h' id = h id) : lendP h' x = lendP h x := by
  cases x <;> simp only [lendP]
  · rw [hh _ (by simp [IV.ment])]
  · rw [hh _ (by simp [IV.ment])]
theorem lentP_congr {h h' : Nat → Option IBlk} {x : IV} (hh : ∀ id, x.ment id = true → h' id = h id) : lentP h' x = lentP h x := by
  cases x <;> simp only [lentP]
  rw [hh _ (by simp [IV.ment])]
theorem lendPs_congr {h h' : Nat → Option IBlk} : ∀ {l : List IV}, (∀ id, IV.mentL id l = true → h' id = h id) → l.map (lendP h') = l.map (lendP h) ∧ lentPs h' l = lentPs h l
  | [], _ => ⟨rfl, rfl⟩
  | x :: l, hh => by
    obtain ⟨e1, e2⟩ := lendPs_congr (l := l) (fun id hi => hh id (by simp [IV.mentL, hi]))
    simp only [List.map_cons, lentPs]
    rw [e1, e2, lendP_congr (fun id hi => hh id (by simp [IV.mentL, hi])), lentP_congr (fun id hi => hh id (by simp [IV.mentL, hi]))]
    exact ⟨rfl, rfl⟩
theorem lendV_congr {h h' : Nat → Option IBlk} {x : IV} (hh : ∀ id, x.ment id = true → h' id = h id) : lendV h' x = lendV h x := by
  cases x with
  | clo g caps => simp only [lendV]; rw [(lendPs_congr (fun id hi => hh id (by simpa [IV.ment] using hi))).1]
  | _ => exact lendP_congr hh
theorem lent_congr {h h' : Nat → Option IBlk} {x : IV} (hh : ∀ id, x.ment id = true → h' id = h id) : lent h' x = lent h x := by
  cases x with
  | clo g caps => simp only [lent]; rw [(lendPs_congr (fun id hi => hh id (by simpa [IV.ment] using hi))).2]
  | _ => exact lentP_congr hh

/-- A block's make: a variable, or a row of elements of k cells. -/
def kindB : IBlk → Option Nat
  | .box _ _ => none
  | .arr k _ _ => some k
/-- How much of memory an operation looks at: none; the make of the blocks that its operands name; all. -/
def see : Op → Nat
  | .move _ => 0
  | .assign _ => 0
  | .binOp _ _ _ _ _ => 0
  | .unOp _ _ _ => 0
  | .index _ _ _ => 0
  | .field _ _ _ => 0
  | .extract _ _ => 0
  | .build _ _ => 0
  | .pick _ _ _ => 0
  | .fieldAddr _ _ _ => 1
  | .indexAddr _ _ _ => 1
  | .slice _ _ _ _ _ => 1
  | .nilCheck _ => 1
  | .call { callee := .builtin .len, .. } => 0
  | _ => 2
def isStore : Op → Bool
  | .store _ _ _ => true
  | _ => false

theorem shape_kind {b b' : Option IBlk} (h : b'.map kindB = b.map kindB) : b'.map IBlk.shape = b.map IBlk.shape := by
  have key : ∀ x : IBlk, x.shape = (kindB x).getD 0 := fun x => by cases x <;> rfl
  cases b <;> cases b' <;> simp at h ⊢
  rw [key, key, h]
theorem arr_kind {b b' : Option IBlk} (h : b'.map kindB = b.map kindB) : (∃ k ty es, b' = some (.arr k ty es)) ↔ ∃ k ty es, b = some (.arr k ty es) := by
  have key : ∀ {x y : Option IBlk}, x.map kindB = y.map kindB → (∃ k ty es, y = some (.arr k ty es)) → ∃ k ty es, x = some (.arr k ty es) := by
    rintro x y h ⟨k, ty, es, rfl⟩
    cases x with
    | none => simp at h
    | some x =>
      cases x with
      | box ty cells => simp [kindB] at h
      | arr k ty es => exact ⟨_, _, _, rfl⟩
  exact ⟨key h.symm, key h⟩
theorem kind_cases {b b' : Option IBlk} (h : b'.map kindB = b.map kindB) : (b = none ∧ b' = none) ∨ (∃ t c t' c', b = some (.box t c) ∧ b' = some (.box t' c')) ∨ ∃ k t e t' e', b = some (.arr k t e) ∧ b' = some (.arr k t' e') := by
  cases b with
  | none => cases b' with
    | none => exact .inl ⟨rfl, rfl⟩
    | some y => simp at h
  | some x => cases b' with
    | none => simp at h
    | some y =>
      cases x with
      | box t c => cases y with
        | box t' c' => exact .inr (.inl ⟨_, _, _, _, rfl, rfl⟩)
        | arr k t' e' => simp [kindB] at h
      | arr k t e => cases y with
        | box t' c' => simp [kindB] at h
        | arr k' t' e' =>
          simp [kindB] at h
          subst h
          exact .inr (.inr ⟨_, _, _, _, _, rfl, rfl⟩)
theorem faddrV_kind {h h' : Nat → Option IBlk} {t : TypeId} {f : Nat} {x : IV} (hh : ∀ id, x.ment id = true → (h' id).map kindB = (h id).map kindB) : faddrV T h' t f x = faddrV T h t f x := by
  cases x <;> simp only [faddrV]
  · rw [shape_kind (hh _ (by simp [IV.ment]))]
  · rw [arr_kind (hh _ (by simp [IV.ment]))]
theorem iaddrV_kind {h h' : Nat → Option IBlk} {t : TypeId} {x y : IV} (hh : ∀ id, x.ment id = true → (h' id).map kindB = (h id).map kindB) : iaddrV T h' t x y = iaddrV T h t x y := by
  cases x <;> cases y <;> simp only [iaddrV]
  all_goals first | rw [shape_kind (hh _ (by simp [IV.ment]))] | skip
  rename_i id off n f k i
  rcases kind_cases (hh id (by simp [IV.ment])) with ⟨e1, e2⟩ | ⟨_, _, _, _, e1, e2⟩ | ⟨_, _, _, _, _, e1, e2⟩ <;> rw [e1, e2]
theorem lenV_any {h h' : Nat → Option IBlk} {t : TypeId} {x : IV} : lenV T h' t x = lenV T h t x := by
  cases x <;> simp only [lenV]
theorem sliceV_kind {h h' : Nat → Option IBlk} {t : TypeId} {x : IV} {lo hi mx : Option IV} (hh : ∀ id, x.ment id = true → (h' id).map kindB = (h id).map kindB) : sliceV T h' t x lo hi mx = sliceV T h t x lo hi mx := by
  cases x with
  | ref id off n full =>
    rcases kind_cases (hh id (by simp [IV.ment])) with ⟨e1, e2⟩ | ⟨_, _, _, _, e1, e2⟩ | ⟨_, _, _, _, _, e1, e2⟩ <;>
      (rcases lo with _ | lo <;> rcases hi with _ | hi <;> rcases mx with _ | mx <;> (try rfl) <;> (try cases lo) <;> (try rfl) <;> (try cases hi) <;> (try rfl) <;> (try cases mx) <;> (try rfl) <;> simp only [sliceV, e1, e2])
  | _ => rcases lo with _ | lo <;> rcases hi with _ | hi <;> rcases mx with _ | mx <;> (try rfl) <;> (try cases lo) <;> (try rfl) <;> (try cases hi) <;> (try rfl) <;> (try cases mx) <;> rfl

/-- What is seen of g and h at some operands. -/
structure Same (l : List Operand) (g g' : Operand → IV) (h h' : Nat → Option IBlk) : Prop where
  eg : ∀ x ∈ l, g' x = g x
  eh : ∀ x ∈ l, ∀ id, (g x).ment id = true → h' id = h id

theorem map_same {g g' : Operand → IV} : ∀ {l : List Operand}, (∀ x ∈ l, g' x = g x) → l.map g' = l.map g
  | [], _ => rfl
  | x :: l, hg => by rw [List.map_cons, List.map_cons, hg x (by simp), map_same fun y hy => hg y (by simp [hy])]

theorem convertV_congr {h h' : Nat → Option IBlk} {s d : TypeId} {x : IV} (hh : ∀ id, x.ment id = true → h' id = h id) : convertV T h' s d x = convertV T h s d x := by
  cases x <;> simp only [convertV]
  rw [hh _ (by simp [IV.ment])]
theorem pureV_congr {g g' : Operand → IV} {h h' : Nat → Option IBlk} (op : Op) (S : Same op.operands.toList g g' h h') : pureV T g' h' op = pureV T g h op := by
  obtain ⟨hg, hh⟩ := S
  unfold pureV
  split
  · rename_i x; rw [hg x (by simp [Op.operands])]
  · rename_i x; rw [hg x (by simp [Op.operands])]
  · rename_i op t x y u; rw [hg x (by simp [Op.operands]), hg y (by simp [Op.operands])]
  · rename_i t x; rw [hg x (by simp [Op.operands])]
  · rename_i t x; rw [hg x (by simp [Op.operands])]
  · rename_i s d x
    rw [hg x (by simp [Op.operands])]
    have hx := hh x (by simp [Op.operands])
    exact convertV_congr hx
  · rename_i t x i; rw [hg x (by simp [Op.operands]), hg i (by simp [Op.operands])]
  · rename_i t x; rw [hg x (by simp [Op.operands])]; exact loadV_congr (hh x (by simp [Op.operands]))
  · rename_i t x f; rw [hg x (by simp [Op.operands])]; exact faddrV_congr (hh x (by simp [Op.operands]))
  · rename_i t x f; rw [hg x (by simp [Op.operands])]
  · rename_i t x i; rw [hg x (by simp [Op.operands]), hg i (by simp [Op.operands])]; exact iaddrV_congr (hh x (by simp [Op.operands]))
  · rename_i t x lo hi mx
    rw [hg x (by simp [Op.operands])]
    have e1 : lo.map g' = lo.map g := by cases lo with | none => rfl | some y => simp only [Option.map_some]; rw [hg y (by simp [Op.operands])]
    have e2 : hi.map g' = hi.map g := by cases hi with | none => rfl | some y => simp only [Option.map_some]; rw [hg y (by simp [Op.operands])]
    have e3 : mx.map g' = mx.map g := by cases mx with | none => rfl | some y => simp only [Option.map_some]; rw [hg y (by simp [Op.operands])]
    rw [e1, e2, e3]
    exact sliceV_congr (hh x (by simp [Op.operands]))
  · rename_i x i; rw [hg x (by simp [Op.operands])]
  · rename_i t parts
    have e : (parts.toList.map fun p => (p.1, g' p.2)) = parts.toList.map fun p => (p.1, g p.2) := by
      apply List.map_congr_left
      intro p hp
      rw [hg p.2 (by simp only [Op.operands, List.mem_map]; exact ⟨p, hp, rfl⟩)]
    simp only [e]
  · rename_i f fi ca
    rw [map_same (l := ca.toList) (fun x hx => hg x (by simp only [Op.operands, Array.toList_append, List.mem_append]; exact .inr hx))]
  · rename_i x
    rw [hg x (by simp [Op.operands])]
    have hx := hh x (by simp [Op.operands])
    cases hv : g x with
    | ptr id off => simp only; rw [hh x (by simp [Op.operands]) id (by rw [hv]; simp [IV.ment])]
    | _ => rfl
  · rename_i args tys
    split
    · rename_i x t h1 h2
      rw [hg x (by simp [Op.operands, Call.operands, h1])]
      exact lenV_congr (hh x (by simp [Op.operands, Call.operands, h1]))
    · rfl
  · rename_i args tys
    split
    · rename_i x t h1 h2
      rw [hg x (by simp [Op.operands, Call.operands, h1])]
    · rfl
  · rename_i args tys
    split
    · rename_i x y h1
      rw [hg x (by simp [Op.operands, Call.operands, h1]), hg y (by simp [Op.operands, Call.operands, h1])]
    · rfl
  · rename_i args tys
    split
    · rename_i x y h1
      rw [hg x (by simp [Op.operands, Call.operands, h1]), hg y (by simp [Op.operands, Call.operands, h1])]
    · rfl
  · rfl

/-- An operation that looks at the make of blocks at most. -/
theorem pureV_kind {g g' : Operand → IV} {h h' : Nat → Option IBlk} (op : Op) (hg : ∀ x ∈ op.operands.toList, g' x = g x) (h2 : see op ≠ 2) (hh : see op = 1 → ∀ x ∈ op.operands.toList, ∀ id, (g x).ment id = true → (h' id).map kindB = (h id).map kindB) :
    pureV T g' h' op = pureV T g h op := by
  unfold pureV
  split
  · rename_i x; rw [hg x (by simp [Op.operands])]
  · rename_i x; rw [hg x (by simp [Op.operands])]
  · rename_i op t x y u; rw [hg x (by simp [Op.operands]), hg y (by simp [Op.operands])]
  · rename_i t x; rw [hg x (by simp [Op.operands])]
  · rename_i t x; rw [hg x (by simp [Op.operands])]
  · exact absurd rfl h2
  · rename_i t x i; rw [hg x (by simp [Op.operands]), hg i (by simp [Op.operands])]
  · exact absurd rfl h2
  · rename_i t x f; rw [hg x (by simp [Op.operands])]; exact faddrV_kind (hh rfl x (by simp [Op.operands]))
  · rename_i t x f; rw [hg x (by simp [Op.operands])]
  · rename_i t x i; rw [hg x (by simp [Op.operands]), hg i (by simp [Op.operands])]; exact iaddrV_kind (hh rfl x (by simp [Op.operands]))
  · rename_i t x lo hi mx
    rw [hg x (by simp [Op.operands])]
    have e1 : lo.map g' = lo.map g := by cases lo with | none => rfl | some y => simp only [Option.map_some]; rw [hg y (by simp [Op.operands])]
    have e2 : hi.map g' = hi.map g := by cases hi with | none => rfl | some y => simp only [Option.map_some]; rw [hg y (by simp [Op.operands])]
    have e3 : mx.map g' = mx.map g := by cases mx with | none => rfl | some y => simp only [Option.map_some]; rw [hg y (by simp [Op.operands])]
    rw [e1, e2, e3]
    exact sliceV_kind (hh rfl x (by simp [Op.operands]))
  · rename_i x i; rw [hg x (by simp [Op.operands])]
  · rename_i t parts
    have e : (parts.toList.map fun p => (p.1, g' p.2)) = parts.toList.map fun p => (p.1, g p.2) := by
      apply List.map_congr_left
      intro p hp
      rw [hg p.2 (by simp only [Op.operands, List.mem_map]; exact ⟨p, hp, rfl⟩)]
    simp only [e]
  · exact absurd rfl h2
  · rename_i x
    rw [hg x (by simp [Op.operands])]
    have hx := hh rfl x (by simp [Op.operands])
    cases hv : g x with
    | ptr id off => simp only; rw [shape_kind (hx id (by rw [hv]; simp [IV.ment]))]
    | _ => rfl
  · rename_i args tys
    split
    · rename_i x t h1 h2
      rw [hg x (by simp [Op.operands, Call.operands, h1])]
      exact lenV_any
    · rfl
  · exact absurd rfl h2
  · exact absurd rfl h2
  · exact absurd rfl h2
  · rfl

/-- Does an operation lay or write a block? -/
def heapy : Op → Bool
  | .alloc _ => true
  | .box _ _ => true
  | .buildSlice _ _ _ => true
  | .makeSlice _ _ _ => true
  | .store _ _ _ => true
  | .call { callee := .builtin .append, .. } => true
  | .call { callee := .builtin .clear, .. } => true
  | .call { callee := .value _, .. } => true
  | _ => false

/-- Two states that are the same where an operation looks. -/
structure Near (ops : List Oper) (o : Oper) (s s' : ISt) : Prop where
  g : ∀ x ∈ o.op.operands.toList, opI s'.tm x = opI s.tm x
  h : ∀ x ∈ o.op.operands.toList, ∀ id, (opI s.tm x).ment id = true → (see o.op = 2 → lkH s'.hp id = lkH s.hp id) ∧ (see o.op = 1 → (lkH s'.hp id).map kindB = (lkH s.hp id).map kindB)
  gd : gval s'.tm ops o = gval s.tm ops o
  fr : heapy o.op = true → ∀ d, o.dst = some d → (mentTm d s.tm = false → mentTm d s'.tm = false) ∧ (mentHp d s.hp = false → mentHp d s'.hp = false)

/-- The same effect, and what was asked there is asked here and no more. -/
def EffLe (e e' : Eff) : Prop := e'.tv = e.tv ∧ e'.hv = e.hv ∧ (e.ob → e'.ob)

theorem EffLe.of_eq {e e' : Eff} (h : e' = e) : EffLe e e' := by subst h; exact ⟨rfl, rfl, id⟩

section
variable {s s' : ISt}

theorem Near.gO (H : Near ops o s s') {x : Operand} (hx : x ∈ o.op.operands.toList) : gO s'.tm x = gO s.tm x := by unfold Ideal.gO; rw [H.g x hx]
theorem Near.gB (H : Near ops o s s') {x : Operand} (hx : x ∈ o.op.operands.toList) : gB s'.tm x = gB s.tm x := by unfold Ideal.gB; rw [H.g x hx]
theorem ment_strip {x : IV} {id : Nat} (h : (strip x).1.ment id = true) : x.ment id = true := by
  cases x <;> simp only [strip] at h <;> first | exact h | simpa [IV.ment] using h
theorem Near.same (H : Near ops o s s') (h2 : see o.op = 2) : Same o.op.operands.toList (Ideal.gO s.tm) (Ideal.gO s'.tm) (lkH s.hp) (lkH s'.hp) :=
  ⟨fun x hx => H.gO hx, fun x hx id hi => (H.h x hx id (ment_strip hi)).1 h2⟩
theorem Near.allB (H : Near ops o s s') : ∀ {l : List Operand}, (∀ x ∈ l, x ∈ o.op.operands.toList) → allB s'.tm l = allB s.tm l
  | [], _ => rfl
  | x :: l, hl => by
    simp only [Ideal.allB]
    rw [H.gB (hl x (by simp)), Near.allB H (fun y hy => hl y (by simp [hy]))]

theorem effPure_near (H : Near ops o s s') : effPure T N ops o s' = effPure T N ops o s := by
  unfold effPure
  have e : pureV T (Ideal.gO s'.tm) (lkH s'.hp) o.op = pureV T (Ideal.gO s.tm) (lkH s.hp) o.op := by
    by_cases h2 : see o.op = 2
    · exact pureV_congr o.op (H.same h2)
    · exact pureV_kind o.op (fun x hx => H.gO hx) h2 (fun h1 x hx id hi => (H.h x hx id (ment_strip hi)).2 h1)
  rw [H.gd, e, H.allB (fun x hx => hx)]

theorem effPick_near (H : Near ops o s s') {c x y : Operand} (ho : o.op = .pick c x y) : effPick N ops o c x y s' = effPick N ops o c x y s := by
  have hc : c ∈ o.op.operands.toList := by rw [ho]; simp [Op.operands]
  have hx : x ∈ o.op.operands.toList := by rw [ho]; simp [Op.operands]
  have hy : y ∈ o.op.operands.toList := by rw [ho]; simp [Op.operands]
  unfold effPick
  rw [H.gd, H.gO hc, H.gB hc, H.g x hx, H.g y hy]

theorem skipE_near (H : Near ops o s s') : skipE o s' ops N = skipE o s ops N := by unfold skipE; rw [H.gd]

theorem effNew_near (H : Near ops o s s') (hh : heapy o.op = true) {b b' : IBlk} {v : Nat → IV} {p p' : Prop} (hb : b' = b) (hp : p → p') : EffLe (effNew N ops o s b v p) (effNew N ops o s' b' v p') := by
  subst hb
  unfold effNew
  cases hd : o.dst with
  | none => exact .of_eq rfl
  | some d =>
    simp only []
    rw [H.gd, skipE_near H]
    cases (gval s.tm ops o).1 with
    | false => exact .of_eq rfl
    | true => exact ⟨rfl, rfl, fun ⟨h1, h2, h3, h4, h5⟩ => ⟨h1, h2, (H.fr hh d hd).1 h3, (H.fr hh d hd).2 h4, hp h5⟩⟩

theorem partsL_near : ∀ {l : List (Nat × Operand)} {i : Nat}, (∀ p ∈ l, opI s'.tm p.2 = opI s.tm p.2) → partsL s'.tm i l = partsL s.tm i l
  | [], i, _ => rfl
  | (j, x) :: l, i, h => by
    simp only [partsL]
    have e := h (j, x) (by simp)
    simp only at e
    rw [partsL_near (fun p hp => h p (by simp [hp]))]
    unfold Ideal.gO Ideal.gB
    rw [e]

theorem callArgs_near (H : Near ops o s s') {fx : Operand} {l : List Operand} (hfx : fx ∈ o.op.operands.toList) (hl : ∀ x ∈ l, x ∈ o.op.operands.toList) : callArgs s'.tm fx l = callArgs s.tm fx l := by
  unfold callArgs
  rw [H.gO hfx, map_same (l := l) (fun x hx => H.gO (hl x hx))]

theorem lend_near {h h' : Nat → Option IBlk} : ∀ {l : List IV}, (∀ x ∈ l, ∀ id, x.ment id = true → h' id = h id) → l.map (lendV h') = l.map (lendV h) ∧ allLent h' l = allLent h l
  | [], _ => ⟨rfl, rfl⟩
  | x :: l, hh => by
    obtain ⟨e1, e2⟩ := lend_near (l := l) (fun y hy => hh y (by simp [hy]))
    simp only [List.map_cons, allLent]
    rw [e1, e2, lendV_congr (hh x (by simp)), lent_congr (hh x (by simp))]
    exact ⟨rfl, rfl⟩

theorem mentL_mem {id : Nat} : ∀ {l : List IV} {x : IV}, x ∈ l → x.ment id = true → IV.mentL id l = true
  | y :: l, x, hx, h => by
    simp only [IV.mentL, Bool.or_eq_true]
    rcases List.mem_cons.1 hx with rfl | hx
    · exact .inl h
    · exact .inr (mentL_mem hx h)

theorem callArgs_ids (H : Near ops o s s') (h2 : see o.op = 2) {fx : Operand} {l : List Operand} (hfx : fx ∈ o.op.operands.toList) (hl : ∀ x ∈ l, x ∈ o.op.operands.toList) :
    ∀ x ∈ callArgs s.tm fx l, ∀ id, x.ment id = true → lkH s'.hp id = lkH s.hp id := by
  intro x hx id hi
  unfold callArgs at hx
  cases hf : gO s.tm fx with
  | clo g caps =>
    rw [hf] at hx
    rcases List.mem_append.1 hx with hx | hx
    · obtain ⟨y, hy, rfl⟩ := List.mem_map.1 hx
      exact (H.same h2).eh y (hl y hy) id hi
    · refine (H.same h2).eh fx hfx id ?_
      rw [hf]
      simp only [IV.ment]
      exact mentL_mem hx hi
  | _ => rw [hf] at hx; simp at hx

theorem effOp_near (H : Near ops o s s') : EffLe (effOp T G N ops o s) (effOp T G N ops o s') := by
  unfold effOp
  split
  · rename_i c x y ho; exact .of_eq (effPick_near H ho)
  · rename_i t ho; exact effNew_near H (by rw [ho]; rfl) rfl id
  · rename_i t x ho
    have hx : x ∈ o.op.operands.toList := by rw [ho]; simp [Op.operands]
    unfold effBox
    refine effNew_near H (by rw [ho]; rfl) (by rw [H.gO hx]) ?_
    rw [H.gO hx, H.gB hx]
    exact id
  · rename_i t n parts ho
    have hp : ∀ p ∈ parts.toList, opI s'.tm p.2 = opI s.tm p.2 := fun p hp => H.g p.2 (by rw [ho]; simp only [Op.operands, List.mem_map]; exact ⟨p, hp, rfl⟩)
    unfold effBuildSlice
    rw [partsL_near hp]
    exact effNew_near H (by rw [ho]; rfl) rfl id
  · rename_i t l c ho
    have hl : l ∈ o.op.operands.toList := by rw [ho]; simp [Op.operands]
    have hc : c ∈ o.op.operands.toList := by rw [ho]; simp [Op.operands]
    unfold effMake
    rw [H.gO hl, H.gO hc, H.gB hl, H.gB hc]
    split
    · exact effNew_near H (by rw [ho]; rfl) rfl id
    · exact .of_eq rfl
  · rename_i t p x ho
    have h2 : see o.op = 2 := by rw [ho]; rfl
    have hx : x ∈ o.op.operands.toList := by rw [ho]; simp [Op.operands]
    have hp : p ∈ o.op.operands.toList := by rw [ho]; simp [Op.operands]
    unfold effStore
    rw [H.gd, H.gO hx, H.gO hp, H.gB hx, H.gB hp, storeV_congr ((H.same h2).eh p hp)]
    exact .of_eq rfl
  · rename_i args tys ho
    split
    · rename_i sx x t t' h1 h2
      split
      · rename_i ht
        have hsx : sx ∈ o.op.operands.toList := by rw [ho]; simp [Op.operands, Call.operands, h1]
        have hx : x ∈ o.op.operands.toList := by rw [ho]; simp [Op.operands, Call.operands, h1]
        have hh : heapy o.op = true := by rw [ho]; rfl
        have h2 : see o.op = 2 := by rw [ho]; rfl
        unfold effAppend
        cases hd : o.dst with
        | none => exact .of_eq rfl
        | some d =>
          simp only []
          rw [H.gd, skipE_near H, H.gO hsx, H.gO hx, H.gB hsx, H.gB hx]
          cases (gval s.tm ops o).1 with
          | false => exact .of_eq rfl
          | true =>
            simp only [cond_true]
            have hc := fun k => srcV_congr (k := k) ((H.same h2).eh x hx)
            split
            · rename_i id n hid
              have hq := (H.same h2).eh sx hsx id (by rw [hid]; simp [IV.ment])
              rw [hq]
              split
              · rename_i k ty es hk
                rw [hc k]
                exact ⟨rfl, rfl, fun ⟨h1, h2, h3, h4, h5⟩ => ⟨h1, h2, (H.fr hh d hd).1 h3, (H.fr hh d hd).2 h4, h5⟩⟩
              · exact .of_eq rfl
            · rw [hc]
              exact ⟨rfl, rfl, fun ⟨h1, h2, h3, h4, h5⟩ => ⟨h1, h2, (H.fr hh d hd).1 h3, (H.fr hh d hd).2 h4, h5⟩⟩
            · rw [hc]
              exact .of_eq rfl
            · exact .of_eq rfl
      · have hsx : sx ∈ o.op.operands.toList := by rw [ho]; simp [Op.operands, Call.operands, h1]
        have hx : x ∈ o.op.operands.toList := by rw [ho]; simp [Op.operands, Call.operands, h1]
        unfold effZeros
        rw [H.gO hsx, H.gO hx, H.gB hsx, H.gB hx]
        split
        · exact effNew_near H (by rw [ho]; rfl) rfl id
        · exact .of_eq rfl
    · exact .of_eq rfl
  · rename_i args tys ho
    split
    · rename_i x t h1 h2
      have hx : x ∈ o.op.operands.toList := by rw [ho]; simp [Op.operands, Call.operands, h1]
      have h2 : see o.op = 2 := by rw [ho]; rfl
      unfold effClear
      rw [H.gd, H.gO hx, H.gB hx]
      cases (gval s.tm ops o).1 with
      | false => exact .of_eq rfl
      | true =>
        simp only [cond_true]
        split
        · rename_i id off n f hid
          have hq := (H.same h2).eh x hx id (by rw [hid]; simp [IV.ment])
          rw [hq]
          exact .of_eq rfl
        · exact .of_eq rfl
    · exact .of_eq rfl
  · rename_i fx args tys ho
    have hfx : fx ∈ o.op.operands.toList := by rw [ho]; simp [Op.operands, Call.operands]
    have hl : ∀ x ∈ args.toList, x ∈ o.op.operands.toList := by intro x hx; rw [ho]; simp [Op.operands, Call.operands] at hx ⊢; exact .inr hx
    have h2 : see o.op = 2 := by rw [ho]; rfl
    unfold effCall
    have e1 := callArgs_near H hfx hl
    obtain ⟨e2, e3⟩ := lend_near (l := callArgs s.tm fx args.toList) (callArgs_ids H h2 hfx hl)
    have e4 : callFn s'.tm fx = callFn s.tm fx := by unfold callFn; rw [H.gO hfx]
    have e5 : hasAll (lkH s'.hp) (idsL (callArgs s.tm fx args.toList)) = hasAll (lkH s.hp) (idsL (callArgs s.tm fx args.toList)) := by
      refine hasAll_congr fun i hi => ?_
      have key : ∀ {l : List IV}, IV.mentL i l = true → ∃ x ∈ l, x.ment i = true := by
        intro l
        induction l with
        | nil => intro h; simp [IV.mentL] at h
        | cons y l ih =>
          intro h
          simp only [IV.mentL, Bool.or_eq_true] at h
          rcases h with h | h
          · exact ⟨y, by simp, h⟩
          · obtain ⟨x, hx, hm⟩ := ih h
            exact ⟨x, by simp [hx], hm⟩
      obtain ⟨x, hx, hm⟩ := key (idsL_ment _ hi)
      exact callArgs_ids H h2 hfx hl x hx i hm
    simp only []
    rw [H.gd, e1, e2, e3, e4, e5, H.gO hfx, H.allB (l := fx :: args.toList) (fun x hx => (List.mem_cons.1 hx).elim (fun e => e ▸ hfx) (fun hx => hl x hx))]
    exact .of_eq rfl
  · exact .of_eq (effPure_near H)

end
end
end Go.Ideal

/- Calls that hand blocks over and back. -/
set_option linter.unusedVariables false
set_option linter.unusedSimpArgs false
namespace Go.Ideal
open Go

/-- A function, at arguments and blocks that are handed to it: it returns v and leaves the blocks hp'. -/
def HCall (P : Program) (f : FuncId) (args : List IV) (hp : List (Nat × Option IBlk)) (v : IV) (hp' : List (Nat × Option IBlk)) : Prop :=
  ∀ (F : Fr) (μ κ : Nat → Nat) (as : List Value), RepH F μ κ hp F.w0 → RepL (ctx F μ κ hp F.w0) args as →
    Calls P f ⟨as⟩ F.w0 fun e w' => ∃ x μ' κ', e = .returned x ∧ RepH F μ' κ' hp' w' ∧ RepV (ctx F μ' κ' hp' w') v x

def resV (T : Nat → TD) (s : ISt) : ResultVar → IV × Prop
  | .tmp t => (lkT s.tm t, True)
  | .cell a ty =>
    match lkT s.tm a with
    | .ptr id off => loadV T (lkH s.hp) ty (.ptr id off)
    | _ => (.junk, False)
def resL (T : Nat → TD) (s : ISt) : List ResultVar → List IV × Prop
  | [] => ([], True)
  | r :: l => ((resV T s r).1 :: (resL T s l).1, (resV T s r).2 ∧ (resL T s l).2)
def resA (T : Nat → TD) (res : Array ResultVar) (s : ISt) : IV × Prop :=
  match res.toList with
  | [r] => resV T s r
  | [r, q] => (.tup (resL T s [r, q]).1, (resL T s [r, q]).2)
  | [r, q, u] => (.tup (resL T s [r, q, u]).1, (resL T s [r, q, u]).2)
  | [] => (.tup [], True)
  | _ => (.junk, False)

/-- What a body comes to. -/
def FinH (T : Nat → TD) (res : Array ResultVar) (v : IV) (hp' : List (Nat × Option IBlk)) : Exit → ISt → Prop
  | .normal, s => (resA T res s).2 ∧ ∃ ρ, SLe ρ ⟨[(0, (resA T res s).1)], s.hp⟩ ⟨[(0, v)], hp'⟩
  | .ret, s => (resA T res s).2 ∧ ∃ ρ, SLe ρ ⟨[(0, (resA T res s).1)], s.hp⟩ ⟨[(0, v)], hp'⟩
  | _, _ => False

/-- One result. -/
def oneRes (tmps : Array Value) : ResultVar → Sem Value
  | .tmp t => pure (tmps.getD t undef)
  | .cell a t => do loadVar t (← asAddr (tmps.getD a undef))

theorem results_one (fn : Func) (tmps : Array Value) : results fn tmps = (do
    let vs ← fn.results.mapM (oneRes tmps)
    pure (if h : vs.size = 1 then vs[0] else .tuple vs)) := by
  unfold results
  congr 1

section
variable {P : Program} {T : Nat → TD} {F : Fr} {μ κ : Nat → Nat} {s : ISt} {a : Act} {w : World}

theorem oneRes_sound (hT : TOK P T) (R : RepS F μ κ s a w) {r : ResultVar} (h : (resV T s r).2) : ∃ x, (oneRes a.tmps r).run P w = .ok x w ∧ RepV (ctx F μ κ s.hp w) (resV T s r).1 x := by
  cases r with
  | tmp t => exact ⟨_, by simp [oneRes], R.tmps t⟩
  | cell d ty =>
    have hr := R.tmps d
    simp only [resV] at h ⊢
    cases hl : lkT s.tm d with
    | ptr id off =>
      rw [hl] at h hr
      obtain ⟨y, hy, hv⟩ := loadV_sound hT R.hpOK hr h
      simp only [RepV] at hr
      obtain ⟨ad, e, _⟩ := hr
      refine ⟨y, ?_, hv⟩
      rw [e] at hy
      simp only [Instr.loadAt, Instr.sureAddr, Sem.run_bind, Sem.run_pure, Result.andThen_ok] at hy
      simp only [oneRes, e, asAddr, Sem.run_bind, Sem.run_pure, Result.andThen_ok]
      exact hy
    | _ => rw [hl] at h; exact h.elim

theorem resA_sound (hT : TOK P T) (R : RepS F μ κ s a w) {fn : Func} (h : (resA T fn.results s).2) : ∃ x, (results fn a.tmps).run P w = .ok x w ∧ RepV (ctx F μ κ s.hp w) (resA T fn.results s).1 x := by
  unfold resA at h ⊢
  split at h
  · rename_i r hres
    have hr : fn.results = #[r] := by apply Array.ext'; simpa using hres
    obtain ⟨x, hx, hv⟩ := oneRes_sound hT R h
    refine ⟨x, ?_, hv⟩
    simp [results_one, hr, hx]
  · rename_i r q hres
    have hr : fn.results = #[r, q] := by apply Array.ext'; simpa using hres
    obtain ⟨h1, h2, _⟩ := h
    obtain ⟨x, hx, hv⟩ := oneRes_sound hT R h1
    obtain ⟨y, hy, hu⟩ := oneRes_sound hT R h2
    refine ⟨.tuple #[x, y], ?_, by simp only [RepV, RepL, resL]; exact ⟨_, rfl, _, _, rfl, hv, _, _, rfl, hu, rfl⟩⟩
    simp [results_one, hr, hx, hy]
  · rename_i r q u hres
    have hr : fn.results = #[r, q, u] := by apply Array.ext'; simpa using hres
    obtain ⟨h1, h2, h3, _⟩ := h
    obtain ⟨x, hx, hv⟩ := oneRes_sound hT R h1
    obtain ⟨y, hy, hu⟩ := oneRes_sound hT R h2
    obtain ⟨z, hz, hw⟩ := oneRes_sound hT R h3
    refine ⟨.tuple #[x, y, z], ?_, by simp only [RepV, RepL, resL]; exact ⟨_, rfl, _, _, rfl, hv, _, _, rfl, hu, _, _, rfl, hw, rfl⟩⟩
    simp [results_one, hr, hx, hy, hz]
  · rename_i hres
    have hr : fn.results = #[] := by apply Array.ext'; simpa using hres
    exact ⟨_, results_none hr _ _ _, by simp only [RepV, RepL]; exact ⟨[], rfl, rfl⟩⟩
  · exact h.elim

theorem hcall_at (hT : TOK P T) {f : FuncId} {fn : Func} {c : Code} {args : List IV} {hp hp' : List (Nat × Option IBlk)} {v : IV} (F0 : Fr) (hf : P.funcs[f]? = some fn) (hb : fn.body = some c) (hn : args.length ≤ fn.ntmps) (hn2 : fn.ntmps ≤ 1000)
    (h : ∀ F : Fr, F.N = fn.ntmps → F.w0 = F0.w0 → F.B0 = F0.B0 → IWp P F c ⟨enumT 0 args, hp⟩ (FinH T fn.results v hp')) (μ κ : Nat → Nat) (as : List Value) (RH : RepH F0 μ κ hp F0.w0) (hL : RepL (ctx F0 μ κ hp F0.w0) args as) :
    Calls P f ⟨as⟩ F0.w0 fun e w' => ∃ x μ' κ', e = .returned x ∧ RepH F0 μ' κ' hp' w' ∧ RepV (ctx F0 μ' κ' hp' w') v x := by
  have hlen := hL.length
  let F : Fr := { F0 with N := fn.ntmps, hN := hn2 }
  have hctx : ∀ μ κ hp w, ctx F μ κ hp w = ctx F0 μ κ hp w := fun _ _ _ _ => rfl
  refine calls_of_wp hf hb (Go.wp_mono (h F rfl rfl rfl μ κ _ F0.w0 ?_) ?_)
  · refine ⟨rfl, ?_, RH.chg, RH.inj, RH.own, fun i => ?_, RH.pin⟩
    · show (((⟨as⟩ : Array Value) ++ Array.replicate (fn.ntmps - (⟨as⟩ : Array Value).size) undef)).size = fn.ntmps
      simp; omega
    · rw [lkT_enum args 0 i (Nat.zero_le _), Nat.sub_zero]
      by_cases hi : i < args.length
      · obtain ⟨u, hu, hr⟩ := hL.get i hi
        have : ((⟨as⟩ : Array Value) ++ Array.replicate (fn.ntmps - (⟨as⟩ : Array Value).size) undef).getD i undef = u := by
          rw [Array.getD_eq_getD_getElem?, Array.getElem?_append_left (by simp; omega)]
          simp [hu]
        rw [this]
        exact hr
      · have : args.getD i .junk = .junk := by simp [List.getD, List.getElem?_eq_none (Nat.le_of_not_lt hi)]
        rw [this]
        simp [RepV]
  · intro e a w' ⟨μ1, κ1, s, R, hq⟩
    have key : ((resA T fn.results s).2 ∧ ∃ ρ, SLe ρ ⟨[(0, (resA T fn.results s).1)], s.hp⟩ ⟨[(0, v)], hp'⟩) →
        a.defers = [] ∧ ∃ x, (results fn a.tmps).run P w' = .ok x w' ∧ (∃ y μ' κ', Ending.returned x = .returned y ∧ RepH F0 μ' κ' hp' w' ∧ RepV (ctx F0 μ' κ' hp' w') v y) := by
      rintro ⟨hg, ρ, hL, hP⟩
      refine ⟨R.defers, ?_⟩
      obtain ⟨x, hx, hv⟩ := resA_sound hT R hg
      have RH1 : RepH F μ1 κ1 s.hp w' := R.toH
      obtain ⟨h1, _, h3⟩ := sle_own (s := ⟨[(0, (resA T fn.results s).1)], s.hp⟩) (s' := ⟨[(0, v)], hp'⟩) RH1 hL
      have hc := conv_rep (s := ⟨[(0, (resA T fn.results s).1)], s.hp⟩) (s' := ⟨[(0, v)], hp'⟩) RH1 hL _ _ x hL.1.1 (by simpa [lkT] using hv)
      exact ⟨x, hx, x, fun i => μ1 (ρ i), fun i => κ1 (ρ i), rfl, ⟨R.chg, h1, h3, fun id q1 q2 => by rw [hP id q1 q2]; exact R.pin id q1 q2⟩, hc⟩
    cases e with
    | normal => exact key hq
    | ret => exact key hq
    | _ => exact hq.elim

theorem hcall_of (hT : TOK P T) {f : FuncId} {fn : Func} {c : Code} {args : List IV} {hp hp' : List (Nat × Option IBlk)} {v : IV} (hf : P.funcs[f]? = some fn) (hb : fn.body = some c) (hn : args.length ≤ fn.ntmps) (hn2 : fn.ntmps ≤ 1000)
    (h : ∀ F : Fr, F.N = fn.ntmps → IWp P F c ⟨enumT 0 args, hp⟩ (FinH T fn.results v hp')) : HCall P f args hp v hp' :=
  fun F0 μ κ as RH hL => hcall_at hT F0 hf hb hn hn2 (fun F hF _ _ => h F hF) μ κ as RH hL
/-- The same in worlds of a kind. -/
def HCallW (I : World → Prop) (P : Program) (f : FuncId) (args : List IV) (hp : List (Nat × Option IBlk)) (v : IV) (hp' : List (Nat × Option IBlk)) : Prop :=
  ∀ (F : Fr) (μ κ : Nat → Nat) (as : List Value), I F.w0 → F.B0 = (fun _ => False) → RepH F μ κ hp F.w0 → RepL (ctx F μ κ hp F.w0) args as →
    Calls P f ⟨as⟩ F.w0 fun e w' => ∃ x μ' κ', e = .returned x ∧ RepH F μ' κ' hp' w' ∧ RepV (ctx F μ' κ' hp' w') v x

end
end Go.Ideal

/- Calls that hand blocks over and back: the caller's side. -/
set_option linter.unusedVariables false
set_option linter.unusedSimpArgs false
namespace Go.Ideal
open Go

def sm : List (Nat × IBlk) → List (Nat × Option IBlk)
  | [] => []
  | (i, b) :: l => (i, some b) :: sm l

/-- A contract with blocks: which arguments are lent by value; what it asks; what it gives. -/
structure HSpec where
  mask : List Bool
  pre : List IV → List (Nat × IBlk) → Prop
  val : List IV → List (Nat × IBlk) → IV
  hval : List IV → List (Nat × IBlk) → List (Nat × IBlk)

def HOK (P : Program) (H : List (Nat × HSpec)) : Prop :=
  ∀ f sp, (f, sp) ∈ H → (∀ args hp, sp.pre args hp → HCall P f args (sm hp) (sp.val args hp) (sm (sp.hval args hp))) ∧ Enters P f

def lkHS : List (Nat × HSpec) → Nat → Option HSpec
  | [], _ => none
  | (j, s) :: l, f => if j = f then some s else lkHS l f

def idsB : Option IBlk → List Nat
  | some (.box _ cells) => idsL cells
  | _ => []
def addIds : List Nat → List Nat → List Nat
  | seen, [] => seen
  | seen, i :: l => addIds (bif seen.contains i then seen else seen ++ [i]) l
def flatIds (h : Nat → Option IBlk) : List Nat → List Nat
  | [] => []
  | i :: l => idsB (h i) ++ flatIds h l
def reach (h : Nat → Option IBlk) : Nat → List Nat → List Nat
  | 0, ids => ids
  | n + 1, ids => reach h n (addIds ids (flatIds h ids))

def posn : List Nat → Nat → Nat → Nat
  | [], _, _ => 1999
  | i :: l, b, id => if i = id then b else posn l (b + 1) id

mutual
def renV (r : Nat → Nat) : IV → IV
  | .agg l => .agg (renL r l)
  | .tup l => .tup (renL r l)
  | .clo g l => .clo g (renL r l)
  | .opt b x => .opt b (renV r x)
  | .ptr i o => .ptr (r i) o
  | .aptr i j o => .aptr (r i) j o
  | .ref i o n f => .ref (r i) o n f
  | x => x
def renL (r : Nat → Nat) : List IV → List IV
  | [] => []
  | x :: l => renV r x :: renL r l
end
def renB (r : Nat → Nat) : IBlk → IBlk
  | .box ty cells => .box ty (renL r cells)
  | .arr k ty es => .arr k ty es
def renH (r : Nat → Nat) : List (Nat × IBlk) → List (Nat × IBlk)
  | [] => []
  | (i, b) :: l => (r i, renB r b) :: renH r l
def numB (h : Nat → Option IBlk) (r : Nat → Nat) : Nat → List Nat → List (Nat × IBlk)
  | _, [] => []
  | b, i :: l => match h i with
    | some blk => (b, renB r blk) :: numB h r (b + 1) l
    | none => numB h r (b + 1) l

def lendM (h : Nat → Option IBlk) : List Bool → List IV → List IV
  | true :: m, x :: l => lendV h x :: lendM h m l
  | false :: m, x :: l => x :: lendM h m l
  | [], l => l
  | _, [] => []
def allHere (h : Nat → Option IBlk) : List Nat → Prop
  | [] => True
  | i :: l => (h i).isSome = true ∧ allHere h l
def lentM (h : Nat → Option IBlk) : List Bool → List IV → Prop
  | true :: m, x :: l => lent h x ∧ allHere h (idsV x) ∧ idsV (lendV h x) = [] ∧ lentM h m l
  | false :: m, x :: l => lentM h m l
  | _, _ => True
/-- The ids of what is lent. -/
def lentI : List Bool → List IV → List Nat
  | true :: m, x :: l => idsV x ++ lentI m l
  | false :: m, x :: l => lentI m l
  | _, _ => []

def fwd (ids : List Nat) (j : Nat) : Nat := ids.getD (j - 1000) 0
def bk (ids : List Nat) (base j : Nat) : Nat := if 1000 ≤ j then ids.getD (j - 1000) 0 else base + j
def bwd (ids : List Nat) (base id : Nat) : Nat := bif ids.contains id then posn ids 1000 id else id - base
def nones : List Nat → List (Nat × Option IBlk)
  | [] => []
  | i :: l => (i, none) :: nones l

def keyOK (s : ISt) (ids : List Nat) (base : Nat) : List (Nat × IBlk) → Prop
  | [] => True
  | (id, b) :: l => (bif ids.contains id then (fwd ids (bwd ids base id) = id ∧ 1000 ≤ bwd ids base id ∧ bwd ids base id < 2000 ∧ (lkH s.hp id).map IBlk.shape = some b.shape)
      else (2000 ≤ id ∧ mentTm id s.tm = false ∧ mentHp id s.hp = false ∧ lkH s.hp id = none)) ∧ keyOK s ids base l

mutual
/-- A value that holds nothing of foreign memory by value. -/
def noSl : IV → Bool
  | .sl _ _ => false
  | .eptr _ _ _ => false
  | .agg l => noSlL l
  | .tup l => noSlL l
  | .clo _ l => noSlL l
  | .opt _ x => noSl x
  | _ => true
def noSlL : List IV → Bool
  | [] => true
  | x :: l => noSl x && noSlL l
end
def flatBs : List (Nat × IBlk) → Bool
  | [] => true
  | (_, .box _ l) :: r => noSlL l && flatBs r
  | (_, .arr _ _ l) :: r => noSlL l && flatBs r

def subHp (h : Nat → Option IBlk) : List Nat → List (Nat × Option IBlk)
  | [] => []
  | i :: l => (i, h i) :: subHp h l

/-- The parts of a call with blocks. -/
structure HC where
  as : List IV
  ids : List Nat
  base : Nat
  cargs : List IV
  chp : List (Nat × IBlk)
  v : IV
  hp : List (Nat × IBlk)

def mkHC1 (sp : HSpec) (o : Oper) (s : ISt) (all as : List IV) (ids : List Nat) (cargs : List IV) (chp : List (Nat × IBlk)) : Eff :=
  let base := 2000 + 16 * o.dst.getD 0
  let v := renV (bk ids base) (sp.val cargs chp)
  let hv := renH (bk ids base) (sp.hval cargs chp)
  { ob := lentM (lkH s.hp) sp.mask all ∧ allHere (lkH s.hp) ids ∧ (lentI sp.mask all).all (fun i => !ids.contains i) = true ∧
      SLe0 (fwd ids) ⟨enumT 0 as, subHp (lkH s.hp) ids⟩ ⟨enumT 0 cargs, sm chp⟩ ∧ sp.pre cargs chp ∧
      SLe0 (bwd ids base) ⟨[(0, sp.val cargs chp)], sm (sp.hval cargs chp)⟩ ⟨[(0, v)], sm hv⟩ ∧ keyOK s ids base hv ∧
      (lentI sp.mask all = [] ∨ noSl v = true ∧ flatBs hv = true),
    tv := setD o (wrapG o true v), hv := sm hv ++ nones ids }

def mkHC0 (sp : HSpec) (o : Oper) (s : ISt) (all as : List IV) (ids : List Nat) : Eff :=
  mkHC1 sp o s all as ids (renL (posn ids 1000) as) (numB (lkH s.hp) (posn ids 1000) 1000 ids)

def effH (sp : HSpec) (N : Nat) (ops : List Oper) (o : Oper) (fx : Operand) (args : List Operand) (s : ISt) : Eff :=
  bif (gval s.tm ops o).1 then
    let all := callArgs s.tm fx args
    let as := lendM (lkH s.hp) sp.mask all
    let E := mkHC0 sp o s all as (reach (lkH s.hp) 3 (addIds [] (idsL as)))
    { ob := (gval s.tm ops o).2 ∧ dstOK N o ∧ allB s.tm (fx :: args) ∧ (∃ g caps, gO s.tm fx = .clo g caps) ∧ E.ob, tv := E.tv, hv := E.hv }
  else skipE o s ops N

end Go.Ideal

/- The caller's side is right. -/
set_option linter.unusedVariables false
set_option linter.unusedSimpArgs false
namespace Go.Ideal
open Go

/-- The ids stand for the same. -/
def WLe (c c' : Ctx) (ok : Nat → Prop) : Prop := ∀ id, ok id → c'.sh id = none ∨ (c'.sh id = c.sh id ∧ c'.μ id = c.μ id ∧ c'.κ id = c.κ id)

mutual
theorem noSl_any {c c' : Ctx} {ok : Nat → Prop} (L : WLe c c' ok) : ∀ (x : IV) (v : Value), noSl x = true → (∀ id, x.ment id = true → ok id) → RepV c x v → RepV c' x v
  | .junk, _, _, _, _ => by simp [RepV]
  | .num _ _, _, _, _, h => by simpa [RepV] using h
  | .bool _, _, _, _, h => by simpa [RepV] using h
  | .str _, _, _, _, h => by simpa [RepV] using h
  | .agg l, v, hs, m, h => by
    simp only [noSl] at hs
    simp only [RepV] at h ⊢
    obtain ⟨vs, hv, hl⟩ := h
    exact ⟨vs, hv, noSlL_any L l vs hs (fun id hi => m id (by simpa [IV.ment] using hi)) hl⟩
  | .tup l, v, hs, m, h => by
    simp only [noSl] at hs
    simp only [RepV] at h ⊢
    obtain ⟨vs, hv, hl⟩ := h
    exact ⟨vs, hv, noSlL_any L l vs hs (fun id hi => m id (by simpa [IV.ment] using hi)) hl⟩
  | .sl k es, v, hs, m, h => by simp [noSl] at hs
  | .nils, _, _, _, h => by simpa [RepV] using h
  | .nilp, _, _, _, h => by simpa [RepV] using h
  | .nilI, _, _, _, h => by simpa [RepV] using h
  | .ptr id off, v, hs, m, h => by
    simp only [RepV] at h ⊢
    obtain ⟨a, hv, h⟩ := h
    refine ⟨a, hv, fun hs => ?_⟩
    rcases L id (m id (by simp [IV.ment])) with h0 | ⟨h1, h2, h3⟩
    · rw [h0] at hs; cases hs
    · rw [h2]; exact h (h1 ▸ hs)
  | .aptr id i off, v, hs, m, h => by
    simp only [RepV] at h ⊢
    obtain ⟨a, hv, h⟩ := h
    refine ⟨a, hv, fun k hk hs => ?_⟩
    rcases L id (m id (by simp [IV.ment])) with h0 | ⟨h1, h2, h3⟩
    · rw [h0] at hs; cases hs
    · rw [h2]; exact h k hk (h1 ▸ hs)
  | .eptr k e off, v, hs, m, h => by simp [noSl] at hs
  | .ref id off n full, v, hs, m, h => by
    simp only [RepV] at h ⊢
    obtain ⟨a, cp, hv, han, h⟩ := h
    refine ⟨a, cp, hv, han, fun k hk hs => ?_⟩
    rcases L id (m id (by simp [IV.ment])) with h0 | ⟨h1, h2, h3⟩
    · rw [h0] at hs; cases hs
    · rw [h2, h3]; exact h k hk (h1 ▸ hs)
  | .clo g caps, v, hs, m, h => by
    simp only [noSl] at hs
    simp only [RepV] at h ⊢
    obtain ⟨vs, hv, hl⟩ := h
    exact ⟨vs, hv, noSlL_any L caps vs hs (fun id hi => m id (by simpa [IV.ment] using hi)) hl⟩
  | .opt b x, v, hs, m, h => by
    simp only [noSl] at hs
    simp only [RepV] at h ⊢
    exact ⟨fun hb => noSl_any L x v hs (fun id hi => m id (by simpa [IV.ment] using hi)) (h.1 hb), h.2⟩
  | .ifc, _, _, _, h => by simpa [RepV] using h
  | .anyB, _, _, _, h => by simpa [RepV] using h
  | .lsl _ _ _, _, _, _, h => by simpa [RepV] using h
theorem noSlL_any {c c' : Ctx} {ok : Nat → Prop} (L : WLe c c' ok) : ∀ (l : List IV) (vs : List Value), noSlL l = true → (∀ id, IV.mentL id l = true → ok id) → RepL c l vs → RepL c' l vs
  | [], _, _, _, h => by simpa [RepL] using h
  | x :: l, vs, hs, m, h => by
    simp only [noSlL, Bool.and_eq_true] at hs
    simp only [RepL] at h ⊢
    obtain ⟨v, r, hv, hx, hl⟩ := h
    exact ⟨v, r, hv, noSl_any L x v hs.1 (fun id hi => m id (by simp [IV.mentL, hi])) hx, noSlL_any L l r hs.2 (fun id hi => m id (by simp [IV.mentL, hi])) hl⟩
end

theorem noSlX_any {c c' : Ctx} {ok : Nat → Prop} (L : WLe c c' ok) {k : Nat} : ∀ (es : List IV) (xs : List Value), noSlL es = true → (∀ id, IV.mentL id es = true → ok id) → RepX c k es xs → RepX c' k es xs
  | [], xs, _, _, h => by simpa [RepX] using h
  | e :: es, xs, hs, m, h => by
    simp only [noSlL, Bool.and_eq_true] at hs
    simp only [RepX] at h ⊢
    obtain ⟨x, r, hx, hv, hk, hr⟩ := h
    exact ⟨x, r, hx, noSl_any L e x hs.1 (fun id hi => m id (by simp [IV.mentL, hi])) hv, hk, noSlX_any L es r hs.2 (fun id hi => m id (by simp [IV.mentL, hi])) hr⟩

theorem conv0_ment {h h' : Nat → Option IBlk} {ρ : Nat → Nat} {x y : IV} {i : Nat} (hc : conv0 h h' ρ x y) (hm : y.ment i = true) : (h' i).isSome = true := by
  cases y with
  | ref id' off' n' f' =>
    simp only [IV.ment, beq_iff_eq] at hm
    subst hm
    cases x <;> simp only [conv0] at hc
    exact hc.1
  | ptr id' off' =>
    simp only [IV.ment, beq_iff_eq] at hm
    subst hm
    cases x <;> simp only [conv0] at hc
    exact hc.1
  | sl k es => simp [IV.ment] at hm
  | junk => simp [IV.ment] at hm
  | _ =>
    have := clean_ment (id := i) _ hc.2
    rw [this] at hm
    cases hm

mutual
theorem conv_ment {h h' : Nat → Option IBlk} {ρ : Nat → Nat} (x : IV) {i : Nat} : ∀ (y : IV), conv h h' ρ x y → y.ment i = true → (h' i).isSome = true
  | .clo g l', hc, hm => by
    cases x with
    | clo g0 l => simp only [conv] at hc; exact convL_ment l l' hc.2 (by simpa [IV.ment] using hm)
    | _ => simp [conv] at hc
  | .agg l', hc, hm => by
    cases x with
    | agg l => simp only [conv] at hc; exact convL_ment l l' hc (by simpa [IV.ment] using hm)
    | _ => simp [conv] at hc
  | .tup l', hc, hm => by
    cases x with
    | tup l => simp only [conv] at hc; exact convL_ment l l' hc (by simpa [IV.ment] using hm)
    | _ => simp [conv] at hc
  | .junk, hc, hm => by simp [IV.ment] at hm
  | .num _ _, hc, hm => by simp [IV.ment] at hm
  | .bool _, hc, hm => by simp [IV.ment] at hm
  | .str _, hc, hm => by simp [IV.ment] at hm
  | .sl _ _, hc, hm => by simp [IV.ment] at hm
  | .nils, hc, hm => by simp [IV.ment] at hm
  | .nilp, hc, hm => by simp [IV.ment] at hm
  | .nilI, hc, hm => by simp [IV.ment] at hm
  | .ptr _ _, hc, hm => conv0_ment (x := x) (by simpa only [conv] using hc) hm
  | .aptr _ _ _, hc, hm => conv0_ment (x := x) (by simpa only [conv] using hc) hm
  | .eptr _ _ _, hc, hm => by simp [IV.ment] at hm
  | .ref _ _ _ _, hc, hm => conv0_ment (x := x) (by simpa only [conv] using hc) hm
  | .opt _ _, hc, hm => conv0_ment (x := x) (by simpa only [conv] using hc) hm
  | .ifc, hc, hm => by simp [IV.ment] at hm
  | .anyB, hc, hm => by simp [IV.ment] at hm
  | .lsl _ _ _, hc, hm => by simp [IV.ment] at hm
theorem convL_ment {h h' : Nat → Option IBlk} {ρ : Nat → Nat} (l : List IV) {i : Nat} : ∀ (l' : List IV), convL h h' ρ l l' → IV.mentL i l' = true → (h' i).isSome = true
  | [], hc, hm => by simp [IV.mentL] at hm
  | y :: l', hc, hm => by
    cases l with
    | nil => simp [convL] at hc
    | cons x l =>
      simp only [convL] at hc
      simp only [IV.mentL, Bool.or_eq_true] at hm
      rcases hm with hm | hm
      · exact conv_ment x y hc.1 hm
      · exact convL_ment l l' hc.2 hm
end

theorem sm_some : ∀ {l : List (Nat × IBlk)} {i : Nat}, lkH (sm l) i = none → i ∉ l.map Prod.fst
  | [], i, _ => by simp
  | (j, b) :: l, i, h => by
    simp only [sm, lkH] at h
    by_cases e : j = i
    · rw [if_pos e] at h; cases h
    · rw [if_neg e] at h
      have := sm_some h
      simp only [List.map_cons, List.mem_cons, not_or]
      exact ⟨fun x => e x.symm, this⟩

theorem lkH_sm {l : List (Nat × IBlk)} {r : List (Nat × Option IBlk)} {i : Nat} : lkH (sm l ++ r) i = match lkH (sm l) i with | some b => some b | none => lkH r i := by
  induction l with
  | nil => rfl
  | cons p l ih =>
    obtain ⟨j, b⟩ := p
    simp only [sm, List.cons_append, lkH]
    by_cases e : j = i
    · simp [e]
    · simp only [if_neg e]; exact ih

theorem lkH_nones {r : List (Nat × Option IBlk)} {i : Nat} : ∀ {ids : List Nat}, lkH (nones ids ++ r) i = if i ∈ ids then none else lkH r i
  | [] => by simp [nones]
  | j :: ids => by
    simp only [nones, List.cons_append, lkH]
    by_cases e : j = i
    · simp [e]
    · rw [if_neg e, lkH_nones (ids := ids)]
      have : i ≠ j := fun x => e x.symm
      simp [this]

theorem lkH_sub {h : Nat → Option IBlk} {i : Nat} : ∀ {ids : List Nat}, lkH (subHp h ids) i = if i ∈ ids then h i else none
  | [] => by simp [subHp, lkH]
  | j :: ids => by
    simp only [subHp, lkH]
    by_cases e : j = i
    · simp [e]
    · rw [if_neg e, lkH_sub (ids := ids)]
      have : i ≠ j := fun x => e x.symm
      simp [this]

theorem allHere_mem {h : Nat → Option IBlk} : ∀ {ids : List Nat}, allHere h ids → ∀ i ∈ ids, h i ≠ none
  | [], _, i, hi => by simp at hi
  | j :: ids, ha, i, hi => by
    rcases List.mem_cons.1 hi with rfl | hi
    · intro e; have := ha.1; rw [e] at this; cases this
    · exact allHere_mem ha.2 i hi

theorem keyOK_mem {s : ISt} {ids : List Nat} {base : Nat} : ∀ {hv : List (Nat × IBlk)}, keyOK s ids base hv → ∀ i b, lkH (sm hv) i = some b →
    (i ∈ ids ∧ fwd ids (bwd ids base i) = i ∧ 1000 ≤ bwd ids base i ∧ bwd ids base i < 2000 ∧ (lkH s.hp i).map IBlk.shape = some b.shape) ∨
    (i ∉ ids ∧ 2000 ≤ i ∧ mentTm i s.tm = false ∧ mentHp i s.hp = false ∧ lkH s.hp i = none)
  | [], _, i, b, h => by simp [sm, lkH] at h
  | (j, c) :: hv, hk, i, b, h => by
    simp only [sm, lkH] at h
    simp only [keyOK] at hk
    by_cases e : j = i
    · subst e
      rw [if_pos rfl] at h
      injection h with h
      subst h
      cases hc : ids.contains j with
      | true =>
        rw [hc] at hk
        exact .inl ⟨by simpa using hc, hk.1⟩
      | false =>
        rw [hc] at hk
        exact .inr ⟨by simpa using hc, hk.1⟩
    · rw [if_neg e] at h
      exact keyOK_mem hk.2 i b h

theorem flatBs_mem : ∀ {hv : List (Nat × IBlk)}, flatBs hv = true → ∀ i b, lkH (sm hv) i = some b → match b with | .box _ l => noSlL l = true | .arr _ _ l => noSlL l = true
  | [], _, i, b, h => by simp [sm, lkH] at h
  | (j, c) :: hv, hf, i, b, h => by
    simp only [sm, lkH] at h
    by_cases e : j = i
    · subst e
      rw [if_pos rfl] at h
      injection h with h
      subst h
      cases c <;> simp only [flatBs, Bool.and_eq_true] at hf <;> exact hf.1
    · rw [if_neg e] at h
      refine flatBs_mem ?_ i b h
      cases c <;> simp only [flatBs, Bool.and_eq_true] at hf <;> exact hf.2

theorem convHp_box {h h' : Nat → Option IBlk} {ρ : Nat → Nat} {hp : List (Nat × Option IBlk)} (hc : convHp h h' ρ hp) {i : Nat} {ty : TypeId} {cells : List IV} (hb : lkH hp i = some (.box ty cells)) {j : Nat} (hm : IV.mentL j cells = true) : (h' j).isSome = true := by
  have := convHp_lk hc i _ hb
  cases hr : h (ρ i) with
  | none => rw [hr] at this; exact this.elim
  | some b0 =>
    rw [hr] at this
    cases b0 with
    | arr k t es => exact this.elim
    | box t cs => exact convL_ment cs cells this.2 hm

end Go.Ideal

/- The caller's side is right: the step. -/
set_option linter.unusedVariables false
set_option linter.unusedSimpArgs false
namespace Go.Ideal
open Go

theorem RepL_of_get {c : Ctx} : ∀ {l : List IV} {vs : List Value}, vs.length = l.length → (∀ i v, vs[i]? = some v → RepV c (l.getD i .junk) v) → RepL c l vs
  | [], vs, hl, _ => by simp only [RepL]; exact List.eq_nil_of_length_eq_zero (by simpa using hl)
  | x :: l, [], hl, _ => by simp at hl
  | x :: l, v :: vs, hl, h => by
    simp only [RepL]
    refine ⟨v, vs, rfl, by simpa using h 0 v rfl, RepL_of_get (by simpa using hl) (fun i u hu => ?_)⟩
    have := h (i + 1) u (by simpa using hu)
    simpa using this

theorem lkHS_mem : ∀ {H : List (Nat × HSpec)} {f : Nat} {sp : HSpec}, lkHS H f = some sp → (f, sp) ∈ H
  | [], f, sp, h => by simp [lkHS] at h
  | (j, t) :: H, f, sp, h => by
    simp only [lkHS] at h
    by_cases e : j = f
    · rw [if_pos e] at h; injection h with h; subst e h; simp
    · rw [if_neg e] at h; exact List.mem_cons_of_mem _ (lkHS_mem h)

theorem renL_length {r : Nat → Nat} : ∀ l : List IV, (renL r l).length = l.length
  | [] => rfl
  | x :: l => by simp [renL, renL_length l]

section
variable {P : Program} {F : Fr} {μ κ : Nat → Nat} {s : ISt} {a : Act} {w : World} {ops : List Oper} {o : Oper}

theorem lentI_mem {h : Nat → Option IBlk} : ∀ {m : List Bool} {l : List IV}, lentM h m l → ∀ i ∈ lentI m l, h i ≠ none
  | [], _, _, i, hi => by simp [lentI] at hi
  | true :: m, [], _, i, hi => by simp [lentI] at hi
  | false :: m, [], _, i, hi => by simp [lentI] at hi
  | false :: m, x :: l, hl, i, hi => lentI_mem (m := m) (l := l) (by simpa [lentM] using hl) i (by simpa [lentI] using hi)
  | true :: m, x :: l, hl, i, hi => by
    simp only [lentM] at hl
    simp only [lentI, List.mem_append] at hi
    rcases hi with hi | hi
    · exact allHere_mem hl.2.1 i hi
    · exact lentI_mem hl.2.2.2 i hi

theorem lendM_rep (R : RepS F μ κ s a w) {c1 : Ctx} (hle : (ctx F μ κ s.hp w).Le c1 (fun _ => True)) (hw : c1.w = w) {L : Nat → Prop} (hL : ∀ b, c1.av b → ¬ L b) :
    ∀ {m : List Bool} {l : List IV} {vs : List Value}, (∀ i ∈ lentI m l, L (μ i)) → lentM (lkH s.hp) m l → RepL (ctx F μ κ s.hp w) l vs → RepL c1 (lendM (lkH s.hp) m l) vs
  | [], l, vs, _, _, h => by simpa [lendM] using RepL.mono hle l vs (fun _ _ => trivial) h
  | true :: m, [], vs, _, _, h => by simpa [lendM, RepL] using h
  | false :: m, [], vs, _, _, h => by simpa [lendM, RepL] using h
  | false :: m, x :: l, vs, hi, hl, h => by
    simp only [lentM] at hl
    simp only [RepL, lendM] at h ⊢
    obtain ⟨v, r, hv, hx, hr⟩ := h
    have hi' : ∀ i ∈ lentI m l, L (μ i) := fun i h => hi i (by simpa [lentI] using h)
    exact ⟨v, r, hv, RepV.mono hle x v (fun _ _ => trivial) hx, lendM_rep R hle hw hL hi' hl hr⟩
  | true :: m, x :: l, vs, hi, hl, h => by
    simp only [lentM] at hl
    simp only [RepL, lendM] at h ⊢
    obtain ⟨v, r, hv, hx, hr⟩ := h
    have hi' : ∀ i ∈ lentI m l, L (μ i) := fun i h => hi i (by simp [lentI, h])
    refine ⟨v, r, hv, ?_, lendM_rep R hle hw hL hi' hl.2.2.2 hr⟩
    have := lend_rep R hx hl.1 L (fun id hm => hi id (by simp [lentI, mem_ids x hm]))
    refine RepV.mono (c := bare (fun b => avOf F μ s.hp b ∧ ¬ L b) w) (c' := c1) (ok := fun _ => False) ⟨fun _ h => h.elim, fun b hb hav => ⟨hle.av b hb hav, hL b hav⟩, by rw [hw]; exact Nat.le_refl _, fun b o' _ _ => by rw [hw]; rfl⟩ _ _ (fun i hm => ?_) this
    have := mem_ids _ hm
    rw [hl.2.2.1] at this
    simp at this

theorem hcall_step (R : RepS F μ κ s a w) {f : FuncId} {sp : HSpec} (hf : ∀ args hp, sp.pre args hp → HCall P f args (sm hp) (sp.val args hp) (sm (sp.hval args hp))) {all : List IV} {vs : List Value} (hall : RepL (ctx F μ κ s.hp w) all vs)
    {ids : List Nat} {cargs : List IV} {chp : List (Nat × IBlk)} (hlen : cargs.length = (lendM (lkH s.hp) sp.mask all).length)
    (hob : (mkHC1 sp o s all (lendM (lkH s.hp) sp.mask all) ids cargs chp).ob) :
    Calls P f ⟨vs⟩ w fun e w' => ∃ x μN κN, e = .returned x ∧ RepS F μN κN ⟨s.tm, (mkHC1 sp o s all (lendM (lkH s.hp) sp.mask all) ids cargs chp).hv ++ s.hp⟩ a w' ∧
      RepV (ctx F μN κN ((mkHC1 sp o s all (lendM (lkH s.hp) sp.mask all) ids cargs chp).hv ++ s.hp) w') (renV (bk ids (2000 + 16 * o.dst.getD 0)) (sp.val cargs chp)) x := by
  unfold mkHC1 at hob ⊢
  simp only at hob ⊢
  generalize hbase : 2000 + 16 * o.dst.getD 0 = base at *
  generalize hv2 : renV (bk ids base) (sp.val cargs chp) = v2 at *
  generalize hhv : renH (bk ids base) (sp.hval cargs chp) = hv at *
  obtain ⟨hlent, hhere, hdis, hfw, hpre, hbw, hkey, hflat⟩ := hob
  have hdis' : ∀ i ∈ lentI sp.mask all, i ∉ ids := by
    intro i hi
    have := List.all_eq_true.1 hdis i hi
    simpa using this
  have hpr := allHere_mem hhere
  let L : Nat → Prop := fun b => ∃ i ∈ lentI sp.mask all, μ i = b
  let B' : Nat → Prop := fun b => ∃ i ∈ ids, μ i = b
  have hLav : ∀ b, L b → avOf F μ s.hp b := by
    rintro b ⟨i, hi, rfl⟩
    exact .inr ⟨i, lentI_mem hlent i hi, rfl⟩
  have hltw : ∀ i, lkH s.hp i ≠ none → μ i < w.heap.size := by
    intro i hi
    cases hb : lkH s.hp i with
    | none => exact absurd hb hi
    | some b => exact lt_of_own R hb
  have hnotA : ∀ i, lkH s.hp i ≠ none → ¬ F.A (μ i) := by
    intro i hi
    cases hb : lkH s.hp i with
    | none => exact absurd hb hi
    | some b => exact (R.own i b hb).2.1
  have havlt : ∀ b, avOf F μ s.hp b → b < w.heap.size := by
    rintro b (h | ⟨i, hi, rfl⟩)
    · exact Nat.lt_of_lt_of_le (F.hA b h) R.chg.size
    · exact hltw i hi
  let F1 : Fr := { A := fun b => avOf F μ s.hp b ∧ ¬ B' b ∧ ¬ L b, B0 := B', w0 := w, N := F.N, hAB := fun b h => h.2.1, hA := fun b h => havlt b h.1, hB := fun b h => Exists.elim h (fun i hi => hi.2 ▸ hltw i (hpr i hi.1)), μ0 := μ, κ0 := κ, hN := F.hN }
  have hsub : ∀ i, lkH (subHp (lkH s.hp) ids) i = if i ∈ ids then lkH s.hp i else none := fun i => lkH_sub
  have hle1 : (ctx F μ κ s.hp w).Le (ctx F1 μ κ (subHp (lkH s.hp) ids) w) (fun _ => True) := by
    refine ⟨fun i _ => ?_, fun b _ hav => ?_, Nat.le_refl _, fun _ _ _ _ => rfl⟩
    · by_cases hi : i ∈ ids
      · right; exact ⟨by show (lkH _ i).map _ = (lkH _ i).map _; rw [hsub, if_pos hi], rfl, rfl⟩
      · left; show (lkH _ i).map _ = none; rw [hsub, if_neg hi]; rfl
    · rcases hav with h | ⟨i, hi, rfl⟩
      · exact h.1
      · rw [hsub] at hi
        by_cases hm : i ∈ ids
        · exact .inr ⟨i, hpr i hm, rfl⟩
        · rw [if_neg hm] at hi; exact absurd rfl hi
  have hL1 : ∀ b, (ctx F1 μ κ (subHp (lkH s.hp) ids) w).av b → ¬ L b := by
    rintro b (h | ⟨i, hi, rfl⟩)
    · exact h.2.2
    · rintro ⟨j, hj, e⟩
      rw [hsub] at hi
      by_cases hm : i ∈ ids
      · have := R.inj j i (lentI_mem hlent j hj) (hpr i hm) e
        exact hdis' j hj (this ▸ hm)
      · rw [if_neg hm] at hi; exact absurd rfl hi
  have has : RepL (ctx F1 μ κ (subHp (lkH s.hp) ids) w) (lendM (lkH s.hp) sp.mask all) vs :=
    lendM_rep R hle1 rfl hL1 (fun i hi => ⟨i, hi, rfl⟩) hlent hall
  have RH1 : RepH F1 μ κ (subHp (lkH s.hp) ids) w := by
    refine ⟨Chg.refl _ _, fun i j hi hj e => ?_, fun id blk hb => ?_, fun _ _ _ => ⟨rfl, rfl⟩⟩
    · rw [hsub] at hi hj
      by_cases h1 : i ∈ ids
      · by_cases h2 : j ∈ ids
        · exact R.inj i j (hpr i h1) (hpr j h2) e
        · rw [if_neg h2] at hj; exact absurd rfl hj
      · rw [if_neg h1] at hi; exact absurd rfl hi
    · rw [hsub] at hb
      by_cases h1 : id ∈ ids
      · rw [if_pos h1] at hb
        exact ⟨RepB.mono hle1 rfl rfl rfl (fun _ => rfl) (fun _ _ _ _ _ => trivial) (R.own id blk hb).1, fun h => h.2.1 ⟨id, h1, rfl⟩, .inl ⟨id, h1, rfl⟩⟩
      · rw [if_neg h1] at hb; cases hb
  obtain ⟨inj2, pres2, own2⟩ := sle_own (s := ⟨enumT 0 (lendM (lkH s.hp) sp.mask all), subHp (lkH s.hp) ids⟩) (s' := ⟨enumT 0 cargs, sm chp⟩) RH1 hfw
  let F2 : Fr := { F1 with μ0 := fun i => μ (fwd ids i), κ0 := fun i => κ (fwd ids i) }
  have RH2 : RepH F2 (fun i => μ (fwd ids i)) (fun i => κ (fwd ids i)) (sm chp) w := ⟨Chg.refl _ _, inj2, own2, fun _ _ _ => ⟨rfl, rfl⟩⟩
  have hcargs : RepL (ctx F2 (fun i => μ (fwd ids i)) (fun i => κ (fwd ids i)) (sm chp) w) cargs vs := by
    refine RepL_of_get (by rw [has.length, hlen]) (fun i v hi => ?_)
    have hlt : i < (lendM (lkH s.hp) sp.mask all).length := by
      rw [← has.length]
      exact (List.getElem?_eq_some_iff.1 hi).1
    obtain ⟨u, hu, hr⟩ := has.get i hlt
    rw [hi] at hu
    injection hu with hu
    subst hu
    have hc := convTm_lk hfw.1 i
    rw [lkT_enum _ 0 i (Nat.zero_le _), lkT_enum _ 0 i (Nat.zero_le _), Nat.sub_zero] at hc
    exact conv_rep (s := ⟨enumT 0 (lendM (lkH s.hp) sp.mask all), subHp (lkH s.hp) ids⟩) (s' := ⟨enumT 0 cargs, sm chp⟩) RH1 hfw _ _ v hc hr
  refine (hf cargs chp hpre F2 _ _ vs RH2 hcargs).mono ?_
  rintro e w' ⟨x, μ', κ', rfl, RH3, hv3⟩
  have hchg : Chg B' w w' := RH3.chg
  obtain ⟨inj4, pres4, own4⟩ := sle_own (s := ⟨[(0, sp.val cargs chp)], sm (sp.hval cargs chp)⟩) (s' := ⟨[(0, v2)], sm hv⟩) RH3 hbw
  have hc4 : conv (lkH (sm (sp.hval cargs chp))) (lkH (sm hv)) (bwd ids base) (sp.val cargs chp) v2 := by
    have := hbw.1.1
    simpa [lkT] using this
  have hv4 := conv_rep (s := ⟨[(0, sp.val cargs chp)], sm (sp.hval cargs chp)⟩) (s' := ⟨[(0, v2)], sm hv⟩) RH3 hbw _ _ x hc4 hv3
  simp only at inj4 pres4 own4 hv4
  have pass : ∀ i b, lkH (sm hv) i = some b → i ∈ ids → μ' (bwd ids base i) = μ i ∧ κ' (bwd ids base i) = κ i ∧ (lkH s.hp i).map IBlk.shape = some b.shape := by
    intro i b hb hi
    rcases keyOK_mem hkey i b hb with ⟨_, q1, q2, q3, q4⟩ | ⟨q, _⟩
    · have := RH3.pin _ q2 q3
      refine ⟨this.1.trans ?_, this.2.trans ?_, q4⟩
      · show μ (fwd ids (bwd ids base i)) = μ i; rw [q1]
      · show κ (fwd ids (bwd ids base i)) = κ i; rw [q1]
    · exact absurd hi q
  have fresh : ∀ i b, lkH (sm hv) i = some b → i ∉ ids → 2000 ≤ i ∧ mentTm i s.tm = false ∧ mentHp i s.hp = false := by
    intro i b hb hi
    rcases keyOK_mem hkey i b hb with ⟨q, _⟩ | ⟨_, q1, q2, q3, _⟩
    · exact absurd q hi
    · exact ⟨q1, q2, q3⟩
  have lkN : ∀ i, lkH (sm hv ++ nones ids ++ s.hp) i = match lkH (sm hv) i with | some b => some b | none => if i ∈ ids then none else lkH s.hp i := by
    intro i
    rw [List.append_assoc, lkH_sm, lkH_nones]
    try (cases lkH (sm hv) i <;> rfl)
  let μN : Nat → Nat := fun i => if lkH (sm hv) i = none then μ i else μ' (bwd ids base i)
  let κN : Nat → Nat := fun i => if lkH (sm hv) i = none then κ i else κ' (bwd ids base i)
  have μK : ∀ i b, lkH (sm hv) i = some b → μN i = μ' (bwd ids base i) ∧ κN i = κ' (bwd ids base i) := by
    intro i b hb
    have : lkH (sm hv) i ≠ none := by rw [hb]; simp
    exact ⟨if_neg this, if_neg this⟩
  have μO : ∀ i, lkH (sm hv) i = none → μN i = μ i ∧ κN i = κ i := fun i hb => ⟨if_pos hb, if_pos hb⟩
  have hK : ∀ i b, lkH (sm hv) i = some b → lkH (sm hv ++ nones ids ++ s.hp) i = some b := fun i b hb => by rw [lkN, hb]
  have hO : ∀ i, lkH (sm hv) i = none → lkH (sm hv ++ nones ids ++ s.hp) i ≠ none → i ∉ ids ∧ lkH s.hp i ≠ none ∧ lkH (sm hv ++ nones ids ++ s.hp) i = lkH s.hp i := by
    intro i h1 h2
    have e := lkN i
    rw [h1] at e
    simp only at e
    by_cases hi : i ∈ ids
    · rw [if_pos hi] at e; exact absurd e h2
    · rw [if_neg hi] at e; exact ⟨hi, e ▸ h2, e⟩
  have frB : ∀ i b, lkH (sm hv) i = some b → (∃ j ∈ ids, μ j = μN i) ∨ w.heap.size ≤ μN i := by
    intro i b hb
    rw [(μK i b hb).1]
    exact (own4 i b hb).2.2
  have hne : ∀ {i}, lkH (sm hv) i ≠ none → ∃ b, lkH (sm hv) i = some b := by
    intro i h
    cases hb : lkH (sm hv) i with
    | none => exact absurd hb h
    | some b => exact ⟨b, rfl⟩
  have hold : ∀ i, lkH s.hp i ≠ none → i ∉ ids → ¬ B' (μ i) := by
    rintro i hi hni ⟨j, hj, e⟩
    have := R.inj j i (hpr j hj) hi e
    exact hni (this ▸ hj)
  have hle2 : (ctx F μ κ s.hp w).Le (ctx F μN κN (sm hv ++ nones ids ++ s.hp) w') (fun i => lkH (sm hv) i ≠ none → i ∈ ids) := by
    refine ⟨fun i hi => ?_, fun b hb hav => ?_, hchg.size, fun b o' hb hav => ?_⟩
    · cases hbi : lkH (sm hv) i with
      | some b =>
        have him := hi (by rw [hbi]; simp)
        obtain ⟨p1, p2, p3⟩ := pass i b hbi him
        refine .inr ⟨?_, (μK i b hbi).1.trans p1, (μK i b hbi).2.trans p2⟩
        show (lkH _ i).map _ = (lkH _ i).map _
        rw [hK i b hbi, p3]; rfl
      | none =>
        have e := lkN i
        rw [hbi] at e
        simp only at e
        by_cases him : i ∈ ids
        · left; show (lkH _ i).map _ = none; rw [e, if_pos him]; rfl
        · right; exact ⟨by show (lkH _ i).map _ = (lkH _ i).map _; rw [e, if_neg him], (μO i hbi).1, (μO i hbi).2⟩
    · rcases hav with h | ⟨i, hi, rfl⟩
      · exact .inl h
      · cases hbi : lkH (sm hv) i with
        | some b' =>
          rcases frB i b' hbi with ⟨j, hj, e⟩ | h
          · exact .inr ⟨j, hpr j hj, e⟩
          · exact absurd hb (Nat.not_lt.2 h)
        | none =>
          obtain ⟨_, h2, _⟩ := hO i hbi hi
          rw [(μO i hbi).1]
          exact .inr ⟨i, h2, rfl⟩
    · exact World.cell?_of_block (hchg.block b hb (fun hB => hav (by obtain ⟨i, hi, e⟩ := hB; exact .inr ⟨i, hpr i hi, e⟩)))
  have okT : ∀ i id, (lkT s.tm i).ment id = true → lkH (sm hv) id ≠ none → id ∈ ids := by
    intro i id hm hk
    obtain ⟨b, hb⟩ := hne hk
    apply Classical.byContradiction
    intro hni
    have := mentTm_lk (fresh id b hb hni).2.1 i
    rw [this] at hm
    cases hm
  have hW : WLe (ctx F2 (fun i => μ' (bwd ids base i)) (fun i => κ' (bwd ids base i)) (sm hv) w') (ctx F μN κN (sm hv ++ nones ids ++ s.hp) w') (fun i => (lkH (sm hv) i).isSome = true) := by
    intro i hi
    cases hb : lkH (sm hv) i with
    | none => rw [hb] at hi; cases hi
    | some b => exact .inr ⟨by show (lkH _ i).map _ = (lkH _ i).map _; rw [hK i b hb, hb], (μK i b hb).1, (μK i b hb).2⟩
  have hle4 : lentI sp.mask all = [] → (ctx F2 (fun i => μ' (bwd ids base i)) (fun i => κ' (bwd ids base i)) (sm hv) w').Le (ctx F μN κN (sm hv ++ nones ids ++ s.hp) w') (fun i => (lkH (sm hv) i).isSome = true) := by
    intro hnil
    have hLno : ∀ b, ¬ L b := by rintro b ⟨i, hi, _⟩; rw [hnil] at hi; simp at hi
    refine ⟨hW, fun b hb hav => ?_, Nat.le_refl _, fun _ _ _ _ => rfl⟩
    rcases hav with h | ⟨i, hi, rfl⟩
    · refine .inl ⟨.inl h, ?_, hLno b⟩
      rintro ⟨j, hj, e⟩
      exact hnotA j (hpr j hj) (e ▸ h)
    · cases hbi : lkH (sm hv) i with
      | some b' => exact .inr ⟨i, by rw [hbi]; simp, ((μK i b' hbi).1).symm⟩
      | none =>
        obtain ⟨h1, h2, _⟩ := hO i hbi hi
        rw [(μO i hbi).1]
        exact .inl ⟨.inr ⟨i, h2, rfl⟩, hold i h2 h1, hLno _⟩
  refine ⟨x, μN, κN, rfl, ?_, ?_⟩
  · refine R.move (fun i => lkH (sm hv) i ≠ none → i ∈ ids) ?_ ?_ ?_ hle2 okT ?_
    · refine R.chg.trans hchg (fun _ h => h) (fun b hb hB => ?_)
      obtain ⟨i, hi, rfl⟩ := hB
      cases hbi : lkH s.hp i with
      | none => exact absurd hbi (hpr i hi)
      | some b =>
        rcases (R.own i b hbi).2.2 with h | h
        · exact h
        · omega
    · intro i j hi hj e
      cases hbi : lkH (sm hv) i with
      | some b =>
        cases hbj : lkH (sm hv) j with
        | some b' =>
          rw [(μK i b hbi).1, (μK j b' hbj).1] at e
          exact inj4 i j (by rw [hbi]; simp) (by rw [hbj]; simp) e
        | none =>
          obtain ⟨h1, h2, _⟩ := hO j hbj hj
          rw [(μO j hbj).1] at e
          rcases frB i b hbi with ⟨q, hq, e'⟩ | h
          · exact absurd ⟨q, hq, e'.trans e⟩ (hold j h2 h1)
          · rw [e] at h; exact absurd (hltw j h2) (Nat.not_lt.2 h)
      | none =>
        obtain ⟨h1, h2, _⟩ := hO i hbi hi
        rw [(μO i hbi).1] at e
        cases hbj : lkH (sm hv) j with
        | some b' =>
          rcases frB j b' hbj with ⟨q, hq, e'⟩ | h
          · exact absurd ⟨q, hq, e'.trans e.symm⟩ (hold i h2 h1)
          · rw [← e] at h; exact absurd (hltw i h2) (Nat.not_lt.2 h)
        | none =>
          obtain ⟨h3, h4, _⟩ := hO j hbj hj
          rw [(μO j hbj).1] at e
          exact R.inj i j h2 h4 e
    · intro id blk hb
      cases hbi : lkH (sm hv) id with
      | some b =>
        have := hK id b hbi
        rw [this] at hb
        injection hb with hb
        subst hb
        obtain ⟨o1, o2, o3⟩ := own4 id b hbi
        refine ⟨?_, ?_, ?_⟩
        · rcases hflat with hnil | ⟨_, hfl⟩
          · refine RepB.mono (hle4 hnil) (μK id b hbi).1 (μK id b hbi).2 rfl (fun _ => rfl) (fun ty cells hbe i hi => ?_) o1
            subst hbe
            exact convHp_box hbw.2.1 hbi hi
          · have hfb := flatBs_mem hfl id b hbi
            cases b with
            | box ty cells =>
              obtain ⟨cs, q1, q2, q3⟩ := o1
              refine ⟨cs, by show w'.heap[μN id]? = _; rw [(μK id _ hbi).1]; exact q1, noSlL_any hW cells cs hfb (fun i hi => convHp_box hbw.2.1 hbi hi) q2, q3⟩
            | arr k ty es =>
              obtain ⟨cur, q1, q2, q3, q4, q5, q6, q7⟩ := o1
              have eμ := (μK id _ hbi).1
              have eκ := (μK id _ hbi).2
              refine ⟨cur, by show w'.heap[μN id]? = _; rw [eμ]; exact q1, by show _ = κN id * k; rw [eκ]; exact q2, by show κN id ≤ _; rw [eκ]; exact q3, q4, by show _ ≤ κN id; rw [eκ]; exact q5, q6, ?_⟩
              obtain ⟨xs, hX, hcl⟩ := q7.toX
              show RepR _ k (μN id) 0 es
              rw [eμ]
              exact (noSlX_any hW es xs hfb (fun i hi => by rw [q6 i] at hi; cases hi) hX).toR hcl
        · intro hA
          rcases frB id b hbi with ⟨j, hj, e⟩ | h
          · exact hnotA j (hpr j hj) (e ▸ hA)
          · have h1 := F.hA _ hA
            have h2 := R.chg.size
            omega
        · rcases frB id b hbi with ⟨j, hj, e⟩ | h
          · rw [← e]
            cases hbj : lkH s.hp j with
            | none => exact absurd hbj (hpr j hj)
            | some bj => exact (R.own j bj hbj).2.2
          · exact .inr (Nat.le_trans R.chg.size h)
      | none =>
        obtain ⟨h1, h2, h3⟩ := hO id hbi (by rw [hb]; simp)
        rw [h3] at hb
        obtain ⟨o1, o2, o3⟩ := R.own id blk hb
        rw [(μO id hbi).1]
        have hl := lt_of_own R hb
        have hblk := hchg.block _ hl (hold id h2 h1)
        refine ⟨RepB.mono hle2 (μO id hbi).1 (μO id hbi).2 hblk (fun o' => World.cell?_of_block hblk) (fun ty cells hbe i hi => ?_) o1, o2, o3⟩
        intro hk
        obtain ⟨b, hb'⟩ := hne hk
        apply Classical.byContradiction
        intro hni
        have := mentHp_lk (fresh i b hb' hni).2.2 id ty cells (hbe ▸ hb)
        rw [this] at hi
        cases hi
    · intro i h1 h2
      cases hbi : lkH (sm hv) i with
      | none => exact μO i hbi
      | some b =>
        by_cases hi : i ∈ ids
        · obtain ⟨p1, p2, _⟩ := pass i b hbi hi
          exact ⟨(μK i b hbi).1.trans p1, (μK i b hbi).2.trans p2⟩
        · have := (fresh i b hbi hi).1
          omega
  · rcases hflat with hnil | ⟨hfl, _⟩
    · exact RepV.mono (hle4 hnil) v2 x (fun i hi => conv_ment _ _ hc4 hi) hv4
    · exact noSl_any hW v2 x hfl (fun i hi => conv_ment _ _ hc4 hi) hv4

end
end Go.Ideal

/- Heap calls as steps; regions in the text's order with them. -/
set_option linter.unusedVariables false
set_option linter.unusedSimpArgs false
namespace Go.Ideal
open Go

section
variable {P : Program} {T : Nat → TD} {G : List (Nat × PSpec)} {H : List (Nat × HSpec)} {F : Fr} {μ κ : Nat → Nat} {s : ISt} {a : Act} {w : World} {ops : List Oper} {o : Oper}

theorem effH_sound (hH : HOK P H) {sp : HSpec} {fx : Operand} {args : Array Operand} {tys : Array TypeId} (ho : o.op = .call { callee := .value fx, args := args, argTypes := tys })
    (hl : lkHS H (callFn s.tm fx) = some sp) (hob : (effH sp F.N ops o fx args.toList s).ob) : StepOK P F ops o s (effH sp F.N ops o fx args.toList s) := by
  intro μ κ a w R Q next hn
  unfold effH at hob hn
  cases hG : (gval s.tm ops o).1 with
  | false =>
    rw [hG] at hob hn
    simp only [cond_false, skipE] at hob hn
    rw [gval_wanted R hob.1, hG]
    simp only [Bool.false_eq_true, if_false]
    exact hn μ κ _ _ (app_set R (by simp [RepV]) hob.2 _)
  | true =>
    rw [hG] at hob hn
    simp only [cond_true] at hob hn
    obtain ⟨hg, hd, hb, ⟨f, caps, hfx⟩, hob⟩ := hob
    rw [gval_wanted R hg, hG]
    simp only [if_true]
    refine .inl ?_
    have hfxr := gO_rep R (allB_mem hb fx (by simp))
    rw [hfx] at hfxr
    simp only [RepV] at hfxr
    obtain ⟨cs, hfv, hcaps⟩ := hfxr
    have hfn : callFn s.tm fx = f := by simp [callFn, hfx]
    have has : callArgs s.tm fx args.toList = args.toList.map (gO s.tm) ++ caps := by simp [callArgs, hfx]
    obtain ⟨hcall, hent⟩ := hH f sp (lkHS_mem (hfn ▸ hl))
    have hargs : RepL (ctx F μ κ s.hp w) (callArgs s.tm fx args.toList) (args.toList.map a.eval ++ cs) := by
      rw [has]
      exact (RepL_map (fun y hy => gO_rep R (allB_mem hb y (by simp [hy])))).append hcaps
    unfold Oper.wp
    rw [run_invoke_clo hent ho hfv w, Oper.upon_enter]
    refine (hcall_step (o := o) R hcall hargs (renL_length _) hob).mono ?_
    rintro e w' ⟨x, μN, κN, rfl, RN, hv⟩
    refine hn μN κN _ _ ?_
    unfold mkHC1 at RN
    unfold mkHC1 at hv
    unfold mkHC0 mkHC1
    simp only at RN hv ⊢
    unfold dstOK at hd
    unfold ISt.app setD
    cases hdst : o.dst with
    | none => simpa [hdst] using RN.putNone x
    | some d =>
      rw [hdst] at hd
      simp only [hdst] at RN hv ⊢
      refine RN.put ?_ hd
      unfold wrapG
      cases o.guard with
      | none => exact hv
      | some p => simp only [RepV]; exact ⟨fun _ => hv, fun h => (by cases h)⟩

/-- A list of one's own is given up: from now on it is only read. -/
theorem freeze1 {P : Program} {F : Fr} {μ κ : Nat → Nat} {s : ISt} {a : Act} {w : World} (R : RepS F μ κ s a w) {t id off n : Nat} {f : Bool} {k : Nat} {ty : TypeId} {es : List IV} (h1 : lkT s.tm t = .ref id off n f) (h2 : lkH s.hp id = some (.arr k ty es)) (h3 : off + n ≤ es.length) :
    RepS F μ κ ⟨(t, .sl k ((es.drop off).take n)) :: s.tm, (id, none) :: s.hp⟩ a w := by
  have hlk : ∀ i, id ≠ i → lkH ((id, none) :: s.hp) i = lkH s.hp i := fun i h => by simp [lkH, h]
  have hid : lkH ((id, none) :: s.hp) id = none := by simp [lkH]
  have hsub : ∀ i, lkH ((id, none) :: s.hp) i ≠ none → id ≠ i ∧ lkH s.hp i ≠ none := fun i h => by
    by_cases e : id = i
    · subst e; exact absurd hid h
    · rw [hlk i e] at h; exact ⟨e, h⟩
  have L : (ctx F μ κ s.hp w).Le (ctx F μ κ ((id, none) :: s.hp) w) (fun _ => True) := by
    refine ⟨fun i _ => ?_, fun b _ hav => ?_, Nat.le_refl _, fun _ _ _ _ => rfl⟩
    · by_cases e : id = i
      · subst e; exact .inl (by show (lkH _ _).map _ = none; rw [hid]; rfl)
      · exact .inr ⟨by show (lkH _ _).map _ = (lkH _ _).map _; rw [hlk i e], rfl, rfl⟩
    · rcases hav with h | ⟨i, hi, h⟩
      · exact .inl h
      · exact .inr ⟨i, (hsub i hi).2, h⟩
  refine ⟨R.defers, R.size, R.chg, fun i j hi hj e => R.inj i j (hsub i hi).2 (hsub j hj).2 e, fun j blk hb => ?_, fun i => ?_, R.pin⟩
  · have hj : id ≠ j := (hsub j (by rw [hb]; simp)).1
    rw [hlk j hj] at hb
    obtain ⟨hB, hr⟩ := R.own j blk hb
    refine ⟨?_, hr⟩
    cases blk with
    | box ty2 cells =>
      obtain ⟨cs, q1, q2, q3⟩ := hB
      exact ⟨cs, q1, RepL.mono L _ _ (fun _ _ => trivial) q2, q3⟩
    | arr k2 ty2 es2 =>
      obtain ⟨cur, q1, q2, q3, q4, q5, q6, q7⟩ := hB
      refine ⟨cur, q1, q2, q3, q4, q5, q6, ?_⟩
      obtain ⟨xs, hX, hcl⟩ := q7.toX
      exact (hX.mono L (fun _ _ => trivial)).toR hcl
  · show RepV _ (lkT ((t, _) :: s.tm) i) _
    by_cases e : t = i
    · subst e
      rw [show lkT ((t, IV.sl k ((es.drop off).take n)) :: s.tm) t = .sl k ((es.drop off).take n) by simp [lkT]]
      obtain ⟨⟨cur, hheap, q2, q3, q4, q5, q6, q7⟩, hA, _⟩ := R.own id _ h2
      have hx := R.tmps t
      rw [h1] at hx
      simp only [RepV] at hx ⊢
      obtain ⟨ao, cp, hv, han, hx⟩ := hx
      obtain ⟨hn, hcap, _, ha⟩ := hx k q4 (by show (lkH s.hp id).map _ = _; rw [h2]; rfl)
      have h3' : κ id ≤ maxLen := q3
      have hcap' : off + cp ≤ κ id := hcap
      refine ⟨ao, n, cp, hv, by simp; omega, hn, by omega, han, (q6.drop off).take n, fun h0 => ?_⟩
      refine ⟨μ id, off * k, ha (.inl h0), ?_, R.toH.lt h2, ?_⟩
      · rintro (h | ⟨i, hi, h⟩)
        · exact hA h
        · exact (hsub i hi).1 (R.inj i id (hsub i hi).2 (by rw [h2]; simp) h).symm
      · have hR := (q7.drop off (by omega)).take n
        obtain ⟨xs, hX, hcl⟩ := hR.toX
        exact (hX.mono L (fun _ _ => trivial)).toR (fun j u hu => by have := hcl j u hu; rwa [Nat.zero_add] at this)
    · rw [show lkT ((t, IV.sl k ((es.drop off).take n)) :: s.tm) i = lkT s.tm i by simp [lkT, e]]
      exact RepV.mono L _ _ (fun _ _ => trivial) (R.tmps i)

def tmpsOf : List (Nat × Operand) → List Nat
  | [] => []
  | (_, .tmp t) :: l => t :: tmpsOf l
  | _ :: l => tmpsOf l
/-- The lists of one's own among these temporaries are given up. -/
def frz (s : ISt) : List Nat → Eff
  | [] => { ob := True, tv := [], hv := [] }
  | t :: l =>
    match lkT s.tm t with
    | .ref id off n _ =>
      match lkH s.hp id with
      | some (.arr k _ es) =>
        let e := frz ⟨(t, .sl k ((es.drop off).take n)) :: s.tm, (id, none) :: s.hp⟩ l
        { ob := off + n ≤ es.length ∧ e.ob, tv := e.tv ++ [(t, .sl k ((es.drop off).take n))], hv := e.hv ++ [(id, none)] }
      | _ => frz s l
    | _ => frz s l
theorem frz_rep {P : Program} {F : Fr} {μ κ : Nat → Nat} {a : Act} {w : World} : ∀ (l : List Nat) (s : ISt), (frz s l).ob → RepS F μ κ s a w → RepS F μ κ (s.app (frz s l)) a w
  | [], s, _, R => by simpa [frz, ISt.app] using R
  | t :: l, s, h, R => by
    unfold frz at h ⊢
    split at h
    · rename_i id off n f h1
      split at h
      · rename_i k ty es h2
        simp only at h ⊢
        have := frz_rep (P := P) l _ h.2 (freeze1 (P := P) R h1 h2 h.1)
        simpa [ISt.app] using this
      · exact frz_rep (P := P) l s h R
    · exact frz_rep (P := P) l s h R
/-- A list built of lists: those that are one's own are given up. -/
def effFrz (T : Nat → TD) (N : Nat) (ops : List Oper) (o : Oper) (t : TypeId) (n : Nat) (parts : List (Nat × Operand)) (s : ISt) : Eff :=
  { ob := (frz s (tmpsOf parts)).ob ∧ (effBuildSlice T N ops o t n parts (s.app (frz s (tmpsOf parts)))).ob,
    tv := (effBuildSlice T N ops o t n parts (s.app (frz s (tmpsOf parts)))).tv ++ (frz s (tmpsOf parts)).tv,
    hv := (effBuildSlice T N ops o t n parts (s.app (frz s (tmpsOf parts)))).hv ++ (frz s (tmpsOf parts)).hv }
theorem effFrz_sound {t : TypeId} {n : Nat} {parts : Array (Nat × Operand)} (hT : TOK P T) (ho : o.op = .buildSlice t n parts) (hob : (effFrz T F.N ops o t n parts.toList s).ob) : StepOK P F ops o s (effFrz T F.N ops o t n parts.toList s) := by
  intro μ κ a w R Q next hk
  have R1 := frz_rep (P := P) (tmpsOf parts.toList) s hob.1 R
  exact effBuildSlice_sound hT ho hob.2 μ κ a w R1 Q next fun μ' κ' a' w' R' => hk μ' κ' a' w' (by simpa [ISt.app, effFrz] using R')

/-- One operation in the text's order: as before, and calls that hand blocks over. -/
def effOp2 (T : Nat → TD) (G : List (Nat × PSpec)) (H : List (Nat × HSpec)) (N : Nat) (ops : List Oper) (o : Oper) (s : ISt) : Eff :=
  match o.op with
  | .call { callee := .value fx, args := args, .. } =>
    match lkHS H (callFn s.tm fx) with
    | some sp => effH sp N ops o fx args.toList s
    | none => effOp T G N ops o s
  | .buildSlice t n parts => effFrz T N ops o t n parts.toList s
  | _ => effOp T G N ops o s

theorem effOp2_sound (hT : TOK P T) (hG : GOKF P F G) (hH : HOK P H) (hob : (effOp2 T G H F.N ops o s).ob) : StepOK P F ops o s (effOp2 T G H F.N ops o s) := by
  unfold effOp2 at hob ⊢
  split at hob
  · rename_i fx args tys ho
    cases hl : lkHS H (callFn s.tm fx) with
    | none => simp only [hl] at hob ⊢; exact effOp_sound hT hG hob
    | some sp => simp only [hl] at hob ⊢; exact effH_sound hH ho hl hob
  · rename_i t n parts ho
    exact effFrz_sound hT ho hob
  · exact effOp_sound hT hG hob

def vcOps2 (T : Nat → TD) (G : List (Nat × PSpec)) (H : List (Nat × HSpec)) (N : Nat) (ops : List Oper) : List Oper → ISt → (ISt → Prop) → Prop
  | [], s, K => K s
  | o :: l, s, K => (effOp2 T G H N ops o s).ob ∧ vcOps2 T G H N ops l (s.app (effOp2 T G H N ops o s)) K

theorem wpList_vc2 (hT : TOK P T) (hG : GOKF P F G) (hH : HOK P H) {ops : List Oper} {Q : Exit → Act → World → Prop} {K : ISt → Prop} (hK : ∀ s μ κ a w, RepS F μ κ s a w → K s → Q .normal a w) :
    ∀ (l : List Oper) (s : ISt), vcOps2 T G H F.N ops l s K → ∀ μ κ a w, RepS F μ κ s a w → wpList P ⟨ops⟩ Q l a w
  | [], s, h, μ, κ, a, w, R => hK s μ κ a w R h
  | o :: l, s, h, μ, κ, a, w, R => by
    simp only [vcOps2] at h
    unfold wpList
    exact effOp2_sound hT hG hH h.1 μ κ a w R Q _ (fun μ' κ' a' w' R' => wpList_vc2 hT hG hH hK l _ h.2 μ' κ' a' w' R')

theorem iwp_region2 (hT : TOK P T) (hG : GOKF P F G) (hH : HOK P H) {id : Nat} {ops : Array Oper} {s : ISt} {Q : Exit → ISt → Prop} (h : vcOps2 T G H F.N ops.toList ops.toList s (Q .normal)) : IWp P F (.region id ops false) s Q := by
  intro μ κ a w R
  refine wp_region_list ?_
  have : ops = ⟨ops.toList⟩ := by simp
  rw [this]
  exact wpList_vc2 hT hG hH (fun s' μ' κ' a' w' R' hK => ⟨μ', κ', s', R', hK⟩) _ _ h μ κ a w R

end
end Go.Ideal

/- Calls that hand blocks over, in a region whose order is drawn. -/
set_option linter.unusedVariables false
set_option linter.unusedSimpArgs false
namespace Go.Ideal
open Go

/-- Is i a name for a block that the call behind d may make? -/
def ownId (d i : Nat) : Bool := if i < 2000 + 16 * d then false else if 2016 + 16 * d ≤ i then false else true
def keysIn (ids : List Nat) (d : Option Nat) : List (Nat × Option IBlk) → Bool
  | [] => true
  | (i, _) :: l => (ids.contains i || (match d with | some d => ownId d i | none => false)) && keysIn ids d l
/-- A call that hands blocks over: all that it reaches is named among its arguments. -/
def effHs (sp : HSpec) (N : Nat) (ops : List Oper) (o : Oper) (fx : Operand) (args : List Operand) (s : ISt) : Eff :=
  bif (gval s.tm ops o).1 then
    bif (reach (lkH s.hp) 3 (addIds [] (idsL (lendM (lkH s.hp) sp.mask (callArgs s.tm fx args))))).all (fun i => (idsL (callArgs s.tm fx args)).contains i) then
      let all := callArgs s.tm fx args
      let as := lendM (lkH s.hp) sp.mask all
      let ids := reach (lkH s.hp) 3 (addIds [] (idsL as))
      let E := mkHC0 sp o s all as ids
      { ob := (gval s.tm ops o).2 ∧ dstOK N o ∧ allB s.tm (fx :: args) ∧ (∃ g caps, gO s.tm fx = .clo g caps) ∧ E.ob ∧ keysIn ids o.dst E.hv = true, tv := E.tv, hv := E.hv }
    else badE
  else skipE o s ops N

def effOp3 (T : Nat → TD) (G : List (Nat × PSpec)) (H : List (Nat × HSpec)) (N : Nat) (ops : List Oper) (o : Oper) (s : ISt) : Eff :=
  match o.op with
  | .call { callee := .value fx, args := args, .. } =>
    match lkHS H (callFn s.tm fx) with
    | some sp => effHs sp N ops o fx args.toList s
    | none => effOp T G N ops o s
  | _ => effOp T G N ops o s

theorem mem_addIds : ∀ (l seen : List Nat) (i : Nat), i ∈ seen → i ∈ addIds seen l
  | [], seen, i, h => h
  | j :: l, seen, i, h => by
    simp only [addIds]
    refine mem_addIds l _ i ?_
    cases seen.contains j with
    | true => exact h
    | false => exact List.mem_append.2 (.inl h)
theorem mem_reach {h : Nat → Option IBlk} : ∀ (n : Nat) (ids : List Nat) (i : Nat), i ∈ ids → i ∈ reach h n ids
  | 0, ids, i, hi => hi
  | n + 1, ids, i, hi => mem_reach n _ i (mem_addIds _ _ _ hi)
theorem flatIds_congr {h h' : Nat → Option IBlk} : ∀ {ids : List Nat}, (∀ i ∈ ids, h' i = h i) → flatIds h' ids = flatIds h ids
  | [], _ => rfl
  | i :: l, hh => by
    simp only [flatIds]
    rw [hh i (by simp), flatIds_congr (fun j hj => hh j (by simp [hj]))]
theorem reach_congr {h h' : Nat → Option IBlk} : ∀ (n : Nat) (ids : List Nat), (∀ i ∈ reach h n ids, h' i = h i) → reach h' n ids = reach h n ids
  | 0, ids, _ => rfl
  | n + 1, ids, hh => by
    simp only [reach] at hh ⊢
    have e : flatIds h' ids = flatIds h ids := flatIds_congr fun i hi => hh i (mem_reach n _ i (mem_addIds _ _ _ hi))
    rw [e]
    exact reach_congr n _ hh
theorem allHere_congr {h h' : Nat → Option IBlk} : ∀ {l : List Nat}, (∀ i ∈ l, h' i = h i) → allHere h' l = allHere h l
  | [], _ => rfl
  | i :: l, hh => by
    simp only [allHere]
    rw [hh i (by simp), allHere_congr (fun j hj => hh j (by simp [hj]))]
theorem subHp_congr {h h' : Nat → Option IBlk} : ∀ {l : List Nat}, (∀ i ∈ l, h' i = h i) → subHp h' l = subHp h l
  | [], _ => rfl
  | i :: l, hh => by
    simp only [subHp]
    rw [hh i (by simp), subHp_congr (fun j hj => hh j (by simp [hj]))]
theorem numB_congr {h h' : Nat → Option IBlk} {r : Nat → Nat} : ∀ {l : List Nat} {b : Nat}, (∀ i ∈ l, h' i = h i) → numB h' r b l = numB h r b l
  | [], _, _ => rfl
  | i :: l, b, hh => by
    simp only [numB]
    rw [hh i (by simp), numB_congr (l := l) (fun j hj => hh j (by simp [hj]))]
theorem lendM_congr {h h' : Nat → Option IBlk} : ∀ {m : List Bool} {l : List IV}, (∀ x ∈ l, ∀ id, x.ment id = true → h' id = h id) → lendM h' m l = lendM h m l ∧ lentM h' m l = lentM h m l
  | [], l, _ => by cases l <;> exact ⟨rfl, rfl⟩
  | b :: m, [], _ => by cases b <;> exact ⟨rfl, rfl⟩
  | true :: m, x :: l, hh => by
    obtain ⟨e1, e2⟩ := lendM_congr (m := m) (l := l) (fun y hy => hh y (by simp [hy]))
    simp only [lendM, lentM]
    have hx := hh x (by simp)
    rw [e1, e2, lendV_congr hx, lent_congr hx, allHere_congr (fun i hi => hx i (ids_ment x hi))]
    exact ⟨rfl, rfl⟩
  | false :: m, x :: l, hh => by
    obtain ⟨e1, e2⟩ := lendM_congr (m := m) (l := l) (fun y hy => hh y (by simp [hy]))
    simp only [lendM, lentM]
    rw [e1, e2]
    exact ⟨rfl, rfl⟩
/-- Names that the call behind d may give are as free in the second state. -/
def FreeK (s s' : ISt) (d : Option Nat) (hv : List (Nat × Option IBlk)) : Prop :=
  ∀ e, d = some e → ∀ p ∈ hv, ownId e p.1 = true → (mentTm p.1 s.tm = false → mentTm p.1 s'.tm = false) ∧ (mentHp p.1 s.hp = false → mentHp p.1 s'.hp = false) ∧ (lkH s.hp p.1 = none → lkH s'.hp p.1 = none)
theorem keysIn_mem {ids : List Nat} {d : Option Nat} : ∀ {l : List (Nat × Option IBlk)}, keysIn ids d l = true → ∀ p ∈ l, ids.contains p.1 = true ∨ ∃ e, d = some e ∧ ownId e p.1 = true
  | [], _, p, hp => by simp at hp
  | (i, b) :: l, h, p, hp => by
    simp only [keysIn, Bool.and_eq_true, Bool.or_eq_true] at h
    rcases List.mem_cons.1 hp with rfl | hp
    · rcases h.1 with q | q
      · exact .inl q
      · cases d with
        | none => cases q
        | some e => exact .inr ⟨e, rfl, q⟩
    · exact keysIn_mem h.2 p hp
theorem keyOK_congr {s s' : ISt} {ids : List Nat} {base : Nat} (hh : ∀ i ∈ ids, lkH s'.hp i = lkH s.hp i) : ∀ {hv : List (Nat × IBlk)}, (∀ p ∈ hv, ids.contains p.1 = true ∨ ((mentTm p.1 s.tm = false → mentTm p.1 s'.tm = false) ∧ (mentHp p.1 s.hp = false → mentHp p.1 s'.hp = false) ∧ (lkH s.hp p.1 = none → lkH s'.hp p.1 = none))) → keyOK s ids base hv → keyOK s' ids base hv
  | [], _, _ => trivial
  | (i, b) :: l, hk, h => by
    have hi := hk (i, b) (by simp)
    simp only at hi
    simp only [keyOK] at h ⊢
    refine ⟨?_, keyOK_congr hh (fun p hp => hk p (by simp [hp])) h.2⟩
    cases hc : ids.contains i with
    | true =>
      rw [hc] at h
      simp only [cond_true] at h ⊢
      rw [hh i (by simpa using hc)]
      exact h.1
    | false =>
      rw [hc] at h hi
      simp only [cond_false] at h ⊢
      rcases hi with hi | ⟨k1, k2, k3⟩
      · cases hi
      · exact ⟨h.1.1, k1 h.1.2.1, k2 h.1.2.2.1, k3 h.1.2.2.2⟩
theorem sm_keys : ∀ {l : List (Nat × IBlk)} {p : Nat × IBlk}, p ∈ l → (p.1, some p.2) ∈ sm l
  | (i, b) :: l, p, h => by
    simp only [sm]
    rcases List.mem_cons.1 h with rfl | h
    · simp
    · exact List.mem_cons.2 (.inr (sm_keys h))

section
variable {P : Program} {T : Nat → TD} {G : List (Nat × PSpec)} {H : List (Nat × HSpec)} {F : Fr} {N : Nat} {ops : List Oper} {o : Oper} {s s' : ISt}

/-- The same effect; what was asked there is asked here if names are free. -/
def EffLe' (p : Prop) (e e' : Eff) : Prop := e'.tv = e.tv ∧ e'.hv = e.hv ∧ (p → e.ob → e'.ob)
theorem EffLe'.of_le {p : Prop} {e e' : Eff} (h : EffLe e e') : EffLe' p e e' := ⟨h.1, h.2.1, fun _ => h.2.2⟩
theorem EffLe'.of_eq {p : Prop} {e e' : Eff} (h : e' = e) : EffLe' p e e' := .of_le (.of_eq h)

theorem effHs_near (hN : Near ops o s s') {sp : HSpec} {fx : Operand} {args : Array Operand} {tys : Array TypeId} (ho : o.op = .call { callee := .value fx, args := args, argTypes := tys }) :
    EffLe' (FreeK s s' o.dst (effHs sp N ops o fx args.toList s).hv) (effHs sp N ops o fx args.toList s) (effHs sp N ops o fx args.toList s') := by
  have hfx : fx ∈ o.op.operands.toList := by rw [ho]; simp [Op.operands, Call.operands]
  have hl : ∀ x ∈ args.toList, x ∈ o.op.operands.toList := by intro x hx; rw [ho]; simp [Op.operands, Call.operands] at hx ⊢; exact .inr hx
  have h2 : see o.op = 2 := by rw [ho]; rfl
  have e1 := callArgs_near hN hfx hl
  have hm := callArgs_ids hN h2 hfx hl
  obtain ⟨e2, e3⟩ := lendM_congr (m := sp.mask) hm
  have key : ∀ {i : Nat} {l : List IV}, IV.mentL i l = true → ∃ x ∈ l, x.ment i = true := by
    intro i l
    induction l with
    | nil => intro h; simp [IV.mentL] at h
    | cons y l ih =>
      intro h
      simp only [IV.mentL, Bool.or_eq_true] at h
      rcases h with h | h
      · exact ⟨y, by simp, h⟩
      · obtain ⟨x, hx, hm⟩ := ih h
        exact ⟨x, by simp [hx], hm⟩
  have hids : ∀ i ∈ idsL (callArgs s.tm fx args.toList), lkH s'.hp i = lkH s.hp i := by
    intro i hi
    obtain ⟨x, hx, hq⟩ := key (idsL_ment _ hi)
    exact hm x hx i hq
  unfold effHs
  rw [hN.gd, skipE_near hN]
  cases (gval s.tm ops o).1 with
  | false => exact EffLe'.of_eq rfl
  | true =>
    simp only [cond_true]
    rw [e1, e2]
    cases hc : (reach (lkH s.hp) 3 (addIds [] (idsL (lendM (lkH s.hp) sp.mask (callArgs s.tm fx args.toList))))).all (fun i => (idsL (callArgs s.tm fx args.toList)).contains i) with
    | false =>
      have hc' : (reach (lkH s'.hp) 3 (addIds [] (idsL (lendM (lkH s.hp) sp.mask (callArgs s.tm fx args.toList))))).all (fun i => (idsL (callArgs s.tm fx args.toList)).contains i) = false := by
        cases hq : (reach (lkH s'.hp) 3 (addIds [] (idsL (lendM (lkH s.hp) sp.mask (callArgs s.tm fx args.toList))))).all (fun i => (idsL (callArgs s.tm fx args.toList)).contains i) with
        | false => rfl
        | true =>
          exfalso
          have := reach_congr (h := lkH s'.hp) (h' := lkH s.hp) 3 _ (fun i hi => (hids i (by simpa using List.all_eq_true.1 hq i hi)).symm)
          rw [this, hq] at hc
          cases hc
      rw [hc']
      exact EffLe'.of_eq rfl
    | true =>
      have hr : ∀ i ∈ reach (lkH s.hp) 3 (addIds [] (idsL (lendM (lkH s.hp) sp.mask (callArgs s.tm fx args.toList)))), lkH s'.hp i = lkH s.hp i := fun i hi => hids i (by simpa using List.all_eq_true.1 hc i hi)
      rw [reach_congr 3 _ hr, hc]
      simp only [cond_true]
      generalize reach (lkH s.hp) 3 (addIds [] (idsL (lendM (lkH s.hp) sp.mask (callArgs s.tm fx args.toList)))) = ids at hr
      unfold mkHC0 mkHC1
      simp only
      rw [numB_congr hr, subHp_congr hr, allHere_congr hr, e3, hN.gO hfx, hN.allB (l := fx :: args.toList) (fun x hx => (List.mem_cons.1 hx).elim (fun e => e ▸ hfx) (fun hx => hl x hx))]
      refine ⟨rfl, rfl, ?_⟩
      rintro hfr ⟨q1, q2, q3, q4, ⟨r1, r2, r3, r4, r5, r6, r7, r8⟩, q6⟩
      refine ⟨q1, q2, q3, q4, ⟨r1, r2, r3, r4, r5, r6, keyOK_congr hr (fun p hp => ?_) r7, r8⟩, q6⟩
      have hm : (p.1, some p.2) ∈ sm (renH (bk ids (2000 + 16 * o.dst.getD 0)) (sp.hval (renL (posn ids 1000) (lendM (lkH s.hp) sp.mask (callArgs s.tm fx args.toList))) (numB (lkH s.hp) (posn ids 1000) 1000 ids))) ++ nones ids := List.mem_append.2 (.inl (sm_keys hp))
      rcases keysIn_mem q6 _ hm with h | ⟨e, h1, h2⟩
      · exact .inl h
      · exact .inr (hfr e h1 _ hm h2)

theorem effOp3_near (hN : Near ops o s s') : EffLe' (FreeK s s' o.dst (effOp3 T G H N ops o s).hv) (effOp3 T G H N ops o s) (effOp3 T G H N ops o s') := by
  unfold effOp3
  split
  · rename_i fx args tys ho
    have hfx : fx ∈ o.op.operands.toList := by rw [ho]; simp [Op.operands, Call.operands]
    have e4 : callFn s'.tm fx = callFn s.tm fx := by unfold callFn; rw [hN.gO hfx]
    rw [e4]
    split
    · exact effHs_near hN ho
    · exact .of_le (effOp_near hN)
  · exact .of_le (effOp_near hN)

theorem effOp3_sound (hT : TOK P T) (hG : GOKF P F G) (hH : HOK P H) (hob : (effOp3 T G H F.N ops o s).ob) : StepOK P F ops o s (effOp3 T G H F.N ops o s) := by
  unfold effOp3 at hob ⊢
  split at hob
  · rename_i fx args tys ho
    cases hl : lkHS H (callFn s.tm fx) with
    | none => simp only [hl] at hob ⊢; exact effOp_sound hT hG hob
    | some sp =>
      simp only [hl] at hob ⊢
      have e : effH sp F.N ops o fx args.toList s = { effHs sp F.N ops o fx args.toList s with ob := (effH sp F.N ops o fx args.toList s).ob } ∧ (effH sp F.N ops o fx args.toList s).ob := by
        unfold effHs effH at *
        cases hg : (gval s.tm ops o).1 with
        | false => rw [hg] at hob; exact ⟨rfl, hob⟩
        | true =>
          rw [hg] at hob
          simp only [cond_true] at hob ⊢
          cases hc : (reach (lkH s.hp) 3 (addIds [] (idsL (lendM (lkH s.hp) sp.mask (callArgs s.tm fx args.toList))))).all (fun i => (idsL (callArgs s.tm fx args.toList)).contains i) with
          | false => rw [hc] at hob; exact hob.elim
          | true =>
            rw [hc] at hob
            simp only [cond_true] at hob ⊢
            exact ⟨by first | rfl | trivial, hob.1, hob.2.1, hob.2.2.1, hob.2.2.2.1, hob.2.2.2.2.1⟩
      have := effH_sound hH ho hl e.2
      rw [e.1] at this
      exact this
  · exact effOp_sound hT hG hob

/-- What a list of operations asks in a region whose order is drawn. -/
def vcOps3 (T : Nat → TD) (G : List (Nat × PSpec)) (H : List (Nat × HSpec)) (N : Nat) (ops : List Oper) : List Oper → ISt → (ISt → Prop) → Prop
  | [], s, K => K s
  | o :: l, s, K => (effOp3 T G H N ops o s).ob ∧ vcOps3 T G H N ops l (s.app (effOp3 T G H N ops o s)) K
end
end Go.Ideal

/- Regions in any order: a run in the text's order, and that it may be shuffled. -/
set_option linter.unusedVariables false
set_option linter.unusedSimpArgs false
namespace Go.Ideal
open Go

/-- One operation of a run: what it did and what it looked at. -/
structure It where
  o : Oper
  tv : List (Nat × IV)
  hv : List (Nat × Option IBlk)
  vals : List IV
  deriving Inhabited

def It.app (x : It) (s : ISt) : ISt := ⟨x.tv ++ s.tm, x.hv ++ s.hp⟩
def mkIt (T : Nat → TD) (G : List (Nat × PSpec)) (H : List (Nat × HSpec)) (N : Nat) (ops : List Oper) (o : Oper) (s : ISt) : It :=
  ⟨o, (effOp3 T G H N ops o s).tv, (effOp3 T G H N ops o s).hv, o.op.operands.toList.map (opI s.tm)⟩

def Tr (T : Nat → TD) (G : List (Nat × PSpec)) (H : List (Nat × HSpec)) (N : Nat) (ops : List Oper) : ISt → List It → Prop
  | _, [] => True
  | s, x :: l => (effOp3 T G H N ops x.o s).ob ∧ x = mkIt T G H N ops x.o s ∧ Tr T G H N ops (x.app s) l
def fin : ISt → List It → ISt
  | s, [] => s
  | s, x :: l => fin (x.app s) l

structure Eqv (s s' : ISt) : Prop where
  t : ∀ i, lkT s'.tm i = lkT s.tm i
  h : ∀ i, lkH s'.hp i = lkH s.hp i
  mt : ∀ d, mentTm d s'.tm = mentTm d s.tm
  mh : ∀ d, mentHp d s'.hp = mentHp d s.hp

theorem Eqv.refl (s : ISt) : Eqv s s := ⟨fun _ => rfl, fun _ => rfl, fun _ => rfl, fun _ => rfl⟩
theorem Eqv.trans {a b c : ISt} (h : Eqv a b) (k : Eqv b c) : Eqv a c :=
  ⟨fun i => (k.t i).trans (h.t i), fun i => (k.h i).trans (h.h i), fun i => (k.mt i).trans (h.mt i), fun i => (k.mh i).trans (h.mh i)⟩

theorem lkT_app {b b' : List (Nat × IV)} {i : Nat} (h : lkT b' i = lkT b i) : ∀ a : List (Nat × IV), lkT (a ++ b') i = lkT (a ++ b) i
  | [] => h
  | (j, v) :: a => by simp only [List.cons_append, lkT]; rw [lkT_app h a]
theorem lkH_app {b b' : List (Nat × Option IBlk)} {i : Nat} (h : lkH b' i = lkH b i) : ∀ a : List (Nat × Option IBlk), lkH (a ++ b') i = lkH (a ++ b) i
  | [] => h
  | (j, v) :: a => by simp only [List.cons_append, lkH]; rw [lkH_app h a]
theorem lkT_skip {b : List (Nat × IV)} {i : Nat} : ∀ {a : List (Nat × IV)}, (∀ p ∈ a, p.1 ≠ i) → lkT (a ++ b) i = lkT b i
  | [], _ => rfl
  | (j, v) :: a, h => by
    simp only [List.cons_append, lkT]
    rw [if_neg (h (j, v) (by simp)), lkT_skip (fun p hp => h p (by simp [hp]))]
theorem lkH_skip {b : List (Nat × Option IBlk)} {i : Nat} : ∀ {a : List (Nat × Option IBlk)}, (∀ p ∈ a, p.1 ≠ i) → lkH (a ++ b) i = lkH b i
  | [], _ => rfl
  | (j, v) :: a, h => by
    simp only [List.cons_append, lkH]
    rw [if_neg (h (j, v) (by simp)), lkH_skip (fun p hp => h p (by simp [hp]))]
theorem mentTm_app {d : Nat} {b : List (Nat × IV)} : ∀ a : List (Nat × IV), mentTm d (a ++ b) = (mentTm d a || mentTm d b)
  | [] => by simp [mentTm]
  | (j, v) :: a => by simp only [List.cons_append, mentTm, mentTm_app a, Bool.or_assoc]
theorem mentHp_app {d : Nat} {b : List (Nat × Option IBlk)} : ∀ a : List (Nat × Option IBlk), mentHp d (a ++ b) = (mentHp d a || mentHp d b)
  | [] => by simp [mentHp]
  | (j, none) :: a => by simp only [List.cons_append, mentHp, mentHp_app a]
  | (j, some (.box _ c)) :: a => by simp only [List.cons_append, mentHp, mentHp_app a, Bool.or_assoc]
  | (j, some (.arr _ _ _)) :: a => by simp only [List.cons_append, mentHp, mentHp_app a]

theorem Eqv.app {s s' : ISt} (h : Eqv s s') (x : It) : Eqv (x.app s) (x.app s') :=
  ⟨fun i => lkT_app (h.t i) _, fun i => lkH_app (h.h i) _, fun d => by simp only [It.app, mentTm_app, h.mt], fun d => by simp only [It.app, mentHp_app, h.mh]⟩

section
variable {T : Nat → TD} {G : List (Nat × PSpec)} {H : List (Nat × HSpec)} {N : Nat} {ops : List Oper}

theorem opI_of {tm tm' : List (Nat × IV)} {x : Operand} (h : ∀ t, x = .tmp t → lkT tm' t = lkT tm t) : opI tm' x = opI tm x := by
  cases x <;> simp only [opI]
  exact h _ rfl

theorem gval_of {tm tm' : List (Nat × IV)} {o : Oper} (h : ∀ j want d, o.guard = some (j, want) → (ops[j]?).bind (·.dst) = some d → lkT tm' d = lkT tm d) : gval tm' ops o = gval tm ops o := by
  unfold gval
  cases hg : o.guard with
  | none => rfl
  | some p =>
    obtain ⟨j, want⟩ := p
    simp only []
    cases hd : (ops[j]?).bind (·.dst) with
    | none => rfl
    | some d => simp only []; rw [h j want d hg hd]

theorem Eqv.near {s s' : ISt} (h : Eqv s s') (o : Oper) : Near ops o s s' :=
  ⟨fun x _ => opI_of fun t _ => h.t t, fun x _ id _ => ⟨fun _ => h.h id, fun _ => by rw [h.h id]⟩, gval_of fun _ _ d _ _ => h.t d, fun _ d _ => ⟨fun e => (h.mt d).trans e, fun e => (h.mh d).trans e⟩⟩

theorem mkIt_near {o : Oper} {s s' : ISt} (hN : Near ops o s s') : mkIt T G H N ops o s' = mkIt T G H N ops o s := by
  obtain ⟨h1, h2, _⟩ := effOp3_near (T := T) (G := G) (H := H) (N := N) hN
  unfold mkIt
  rw [h1, h2, map_same hN.g]

theorem tr_eqv : ∀ {l : List It} {s s' : ISt}, Eqv s s' → Tr T G H N ops s l → Tr T G H N ops s' l ∧ Eqv (fin s l) (fin s' l)
  | [], s, s', h, _ => ⟨trivial, h⟩
  | x :: l, s, s', h, ht => by
    obtain ⟨h1, h2, h3⟩ := ht
    obtain ⟨_, _, ho⟩ := effOp3_near (T := T) (G := G) (H := H) (N := N) (h.near (ops := ops) x.o)
    obtain ⟨k1, k2⟩ := tr_eqv (h.app x) h3
    exact ⟨⟨ho (fun _ _ p _ _ => ⟨fun q => (h.mt _).trans q, fun q => (h.mh _).trans q, fun q => (h.h _).trans q⟩) h1, by rw [mkIt_near (h.near x.o)]; exact h2, k1⟩, k2⟩

theorem setD_keys {o : Oper} {v : IV} : ∀ p ∈ setD o v, o.dst = some p.1 := by
  intro p hp
  unfold setD at hp
  cases hd : o.dst with
  | none => rw [hd] at hp; simp at hp
  | some d => rw [hd] at hp; simp at hp; rw [hp]
theorem effNew_keys {o : Oper} {s : ISt} {b : IBlk} {v : Nat → IV} {p : Prop} : ∀ q ∈ (effNew N ops o s b v p).tv, o.dst = some q.1 := by
  unfold effNew
  split
  · rename_i d hd
    cases (gval s.tm ops o).1 with
    | false => exact setD_keys
    | true => intro q hq; simp at hq; rw [hd, hq]
  · simp

theorem effOp_keys (o : Oper) (s : ISt) : ∀ q ∈ (effOp T G N ops o s).tv, o.dst = some q.1 := by
  unfold effOp
  split
  · exact setD_keys
  · exact effNew_keys
  · exact effNew_keys
  · exact effNew_keys
  · unfold effMake; split
    · exact effNew_keys
    · simp
  · unfold effStore
    cases (gval s.tm ops o).1 <;> simp
  · split
    · split
      · unfold effAppend
        split
        · simp
        · rename_i d hd
          cases (gval s.tm ops o).1 with
          | false => exact setD_keys
          | true =>
            simp only [cond_true]
            split
            · split
              · intro q hq; simp at hq; rw [hd, hq]
              · simp
            · intro q hq; simp at hq; rw [hd, hq]
            · intro q hq; simp at hq; rw [hd, hq]
            · simp
      · unfold effZeros; split
        · exact effNew_keys
        · simp
    · simp [badE]
  · split
    · unfold effClear
      cases (gval s.tm ops o).1 with
      | false => simp
      | true =>
        simp only [cond_true]
        split
        · split <;> simp
        · simp
    · simp [badE]
  · unfold effCall; exact setD_keys
  · unfold effPure; exact setD_keys

theorem effOp_still {o : Oper} {s : ISt} (h : heapy o.op = false) : (effOp T G N ops o s).hv = [] := by
  unfold effOp
  split
  · rfl
  · rename_i ho; rw [ho] at h; simp [heapy] at h
  · rename_i ho; rw [ho] at h; simp [heapy] at h
  · rename_i ho; rw [ho] at h; simp [heapy] at h
  · rename_i ho; rw [ho] at h; simp [heapy] at h
  · rename_i ho; rw [ho] at h; simp [heapy] at h
  · rename_i ho; rw [ho] at h; simp [heapy] at h
  · rename_i ho; rw [ho] at h; simp [heapy] at h
  · rename_i ho; rw [ho] at h; simp [heapy] at h
  · rfl

theorem effHs_keys {sp : HSpec} {o : Oper} {fx : Operand} {args : List Operand} {s : ISt} : ∀ q ∈ (effHs sp N ops o fx args s).tv, o.dst = some q.1 := by
  unfold effHs
  cases (gval s.tm ops o).1 with
  | false => exact setD_keys
  | true =>
    simp only [cond_true]
    cases (reach (lkH s.hp) 3 (addIds [] (idsL (lendM (lkH s.hp) sp.mask (callArgs s.tm fx args))))).all (fun i => (idsL (callArgs s.tm fx args)).contains i) with
    | false => simp [badE]
    | true => exact setD_keys
theorem effOp3_keys (o : Oper) (s : ISt) : ∀ q ∈ (effOp3 T G H N ops o s).tv, o.dst = some q.1 := by
  unfold effOp3
  split
  · split
    · exact effHs_keys
    · exact effOp_keys o s
  · exact effOp_keys o s
theorem effOp3_still {o : Oper} {s : ISt} (h : heapy o.op = false) : (effOp3 T G H N ops o s).hv = [] := by
  unfold effOp3
  split
  · rename_i ho; rw [ho] at h; simp [heapy] at h
  · exact effOp_still h
theorem effOp3_store {o : Oper} {s : ISt} (h : isStore o.op = true) : effOp3 T G H N ops o s = effOp T G N ops o s := by
  unfold effOp3
  split
  · rename_i ho; rw [ho] at h; simp [isStore] at h
  · rfl

/-- What x writes, y does not look at: it looks at no memory, or at the make of blocks alone, which a store leaves. -/
def seeOK (x y : It) : Prop := see y.o.op = 0 ∨ (see y.o.op = 1 ∧ isStore x.o.op = true)

theorem storeV_kind {h : Nat → Option IBlk} {t : TypeId} {x p : IV} (hp : (storeV T h t x p).2) : (h (storeV T h t x p).1.1).map kindB = some (kindB (storeV T h t x p).1.2) := by
  unfold storeV at hp ⊢
  split at hp
  · rename_i id off
    split at hp
    · rename_i ty cells hb
      rw [hb]
      rfl
    · exact hp.elim
  · rename_i id i off
    split at hp
    · rename_i k ty es hb
      by_cases h1 : off = 0 ∧ (T t).size = k
      · rw [if_pos h1] at hp ⊢
        rw [hb]
        rfl
      · rw [if_neg h1] at hp ⊢
        split at hp
        · rename_i l he
          rw [hb]
          rfl
        · exact hp.elim
    · exact hp.elim
  · exact hp.elim

/-- A store leaves the makes of blocks. -/
theorem store_kind {o : Oper} {s : ISt} (h : isStore o.op = true) : ∀ p ∈ (effOp3 T G H N ops o s).hv, ∃ b, p.2 = some b ∧ ((effOp3 T G H N ops o s).ob → (lkH s.hp p.1).map kindB = some (kindB b)) := by
  rw [effOp3_store h]
  unfold isStore at h
  split at h
  · rename_i t q x ho
    intro p hp
    unfold effOp at hp ⊢
    rw [ho] at hp ⊢
    simp only at hp ⊢
    unfold effStore at hp ⊢
    cases hG : (gval s.tm ops o).1 with
    | false => rw [hG] at hp; simp at hp
    | true =>
      rw [hG] at hp
      simp only [cond_true, List.mem_singleton] at hp ⊢
      subst hp
      refine ⟨_, rfl, fun hob => ?_⟩
      exact storeV_kind hob.2.2.2.2
  · cases h

/-- Two operations of a run that may change places. -/
structure Indep (ops : List Oper) (x y : It) : Prop where
  ap : Oper.apart ⟨ops⟩ x.o y.o = true
  xy : ∀ p ∈ x.hv, (IV.mentL p.1 y.vals = false ∨ seeOK x y) ∧ ∀ q ∈ y.hv, q.1 ≠ p.1
  yx : ∀ p ∈ y.hv, IV.mentL p.1 x.vals = false ∨ seeOK y x
  fx : heapy x.o.op = true → ∀ d, x.o.dst = some d → mentTm d y.tv = false ∧ mentHp d y.hv = false
  fy : heapy y.o.op = true → ∀ d, y.o.dst = some d → mentTm d x.tv = false ∧ mentHp d x.hv = false
  kx : ∀ e, x.o.dst = some e → ∀ p ∈ x.hv, ownId e p.1 = true → mentTm p.1 y.tv = false ∧ mentHp p.1 y.hv = false

theorem looks_op {o : Oper} {t : Nat} (h : Operand.tmp t ∈ o.op.operands.toList) : t ∈ o.looksAt ⟨ops⟩ := by
  unfold Oper.looksAt
  refine List.mem_append.2 (.inl (List.mem_filterMap.2 ⟨_, h, rfl⟩))
theorem looks_guard {o : Oper} {j : Nat} {want : Bool} {d : Nat} (h : o.guard = some (j, want)) (hd : (ops[j]?).bind (·.dst) = some d) : d ∈ o.looksAt ⟨ops⟩ := by
  unfold Oper.looksAt
  refine List.mem_append.2 (.inr ?_)
  have e : ((⟨ops⟩ : Array Oper)[j]?).bind (·.dst) = some d := by simpa using hd
  simp only [h, e]
  simp

/-- What may lie between an operation and what was written: it names it not, or looks at no memory, or at makes that were left. -/
def farP (o : Oper) (vals : List IV) (h : Nat → Option IBlk) (p : Nat × Option IBlk) : Prop :=
  IV.mentL p.1 vals = false ∨ see o.op = 0 ∨ (see o.op = 1 ∧ ∃ b, p.2 = some b ∧ (h p.1).map kindB = some (kindB b))

theorem lkH_kind {b : List (Nat × Option IBlk)} {i : Nat} : ∀ {a : List (Nat × Option IBlk)}, (∀ p ∈ a, p.1 = i → p.2.map kindB = (lkH b i).map kindB) → (lkH (a ++ b) i).map kindB = (lkH b i).map kindB
  | [], _ => rfl
  | (j, v) :: a, h => by
    simp only [List.cons_append, lkH]
    by_cases e : j = i
    · rw [if_pos e]; exact h (j, v) (by simp) e
    · rw [if_neg e]; exact lkH_kind fun p hp => h p (by simp [hp])

theorem far_look {o : Oper} {x : It} {s : ISt} {vals : List IV} (hv : ∀ p ∈ x.hv, farP o vals (lkH s.hp) p) {id : Nat} (hm : IV.mentL id vals = true) :
    (see o.op = 2 → lkH (x.app s).hp id = lkH s.hp id) ∧ (see o.op = 1 → (lkH (x.app s).hp id).map kindB = (lkH s.hp id).map kindB) := by
  refine ⟨fun h2 => lkH_skip fun p hp e => ?_, fun h1 => lkH_kind fun p hp e => ?_⟩
  · rcases hv p hp with h | h | ⟨h, _⟩
    · rw [e, hm] at h; cases h
    · rw [h] at h2; cases h2
    · rw [h] at h2; cases h2
  · rcases hv p hp with h | h | ⟨_, b, hb, hk⟩
    · rw [e, hm] at h; cases h
    · rw [h] at h1; cases h1
    · rw [hb, ← e, hk]; rfl

theorem near_of {o : Oper} {x : It} {s : ISt} (hx : ∀ q ∈ x.tv, q.1 ∉ o.looksAt ⟨ops⟩) (hv : ∀ p ∈ x.hv, farP o (o.op.operands.toList.map (opI s.tm)) (lkH s.hp) p)
    (hf : heapy o.op = true → ∀ d, o.dst = some d → mentTm d x.tv = false ∧ mentHp d x.hv = false) : Near ops o s (x.app s) := by
  refine ⟨fun z hz => opI_of fun t ht => lkT_skip fun q hq e => hx q hq (e ▸ looks_op (ht ▸ hz)), fun z hz id hid => far_look hv (mentL_mem (List.mem_map.2 ⟨z, hz, rfl⟩) hid),
    gval_of fun j want d hg hd => lkT_skip fun q hq e => hx q hq (e ▸ looks_guard hg hd), fun hh d hd => ⟨fun e => ?_, fun e => ?_⟩⟩
  · simp only [It.app, mentTm_app, (hf hh d hd).1, e, Bool.or_false]
  · simp only [It.app, mentHp_app, (hf hh d hd).2, e, Bool.or_false]

theorem near_back {o : Oper} {x : It} {s : ISt} (hx : ∀ q ∈ x.tv, q.1 ∉ o.looksAt ⟨ops⟩) (hv : ∀ p ∈ x.hv, farP o (o.op.operands.toList.map (opI (x.app s).tm)) (lkH s.hp) p) : Near ops o (x.app s) s := by
  have hsk : ∀ z ∈ o.op.operands.toList, opI (x.app s).tm z = opI s.tm z := fun z hz => opI_of fun t ht => lkT_skip fun q hq e => hx q hq (e ▸ looks_op (ht ▸ hz))
  refine ⟨fun z hz => (hsk z hz).symm, fun z hz id hid => ?_,
    (gval_of fun j want d hg hd => lkT_skip fun q hq e => hx q hq (e ▸ looks_guard hg hd)).symm, fun hh d hd => ⟨fun e => ?_, fun e => ?_⟩⟩
  · obtain ⟨h1, h2⟩ := far_look hv (mentL_mem (List.mem_map.2 ⟨z, hz, rfl⟩) hid)
    exact ⟨fun h => (h1 h).symm, fun h => (h2 h).symm⟩
  · simp only [It.app, mentTm_app, Bool.or_eq_false_iff] at e; exact e.2
  · simp only [It.app, mentHp_app, Bool.or_eq_false_iff] at e; exact e.2

theorem tr_swap {x y : It} {l : List It} {s : ISt} (h : Tr T G H N ops s (x :: y :: l)) (hI : Indep ops x y) : Tr T G H N ops s (y :: x :: l) ∧ Eqv (fin s (x :: y :: l)) (fin s (y :: x :: l)) := by
  obtain ⟨hx1, hx2, hy1, hy2, hl⟩ := h
  obtain ⟨a1, a2, a3⟩ := Oper.apart_spec hI.ap
  have kx : ∀ q ∈ x.tv, x.o.dst = some q.1 := by intro q hq; rw [hx2] at hq ⊢; exact effOp3_keys _ _ q hq
  have ky : ∀ q ∈ y.tv, y.o.dst = some q.1 := by intro q hq; rw [hy2] at hq ⊢; exact effOp3_keys _ _ q hq
  have ey : y.vals = y.o.op.operands.toList.map (opI (x.app s).tm) := congrArg It.vals hy2
  have ex : x.vals = x.o.op.operands.toList.map (opI s.tm) := congrArg It.vals hx2
  have fxs : ∀ p ∈ x.hv, farP y.o (y.o.op.operands.toList.map (opI (x.app s).tm)) (lkH s.hp) p := by
    intro p hp
    rw [← ey]
    rcases (hI.xy p hp).1 with h | h | ⟨h, hst⟩
    · exact .inl h
    · exact .inr (.inl h)
    · refine .inr (.inr ⟨h, ?_⟩)
      have hp' := hp
      rw [hx2] at hp'
      obtain ⟨b, hb, hk⟩ := store_kind hst p hp'
      exact ⟨b, hb, hk hx1⟩
  have fys : ∀ p ∈ y.hv, farP x.o (x.o.op.operands.toList.map (opI s.tm)) (lkH s.hp) p := by
    intro p hp
    rw [← ex]
    rcases hI.yx p hp with h | h | ⟨h, hst⟩
    · exact .inl h
    · exact .inr (.inl h)
    · refine .inr (.inr ⟨h, ?_⟩)
      have hp' := hp
      rw [hy2] at hp'
      obtain ⟨b, hb, hk⟩ := store_kind hst p hp'
      refine ⟨b, hb, ?_⟩
      have e : lkH (x.app s).hp p.1 = lkH s.hp p.1 := lkH_skip fun q hq e => (hI.xy q hq).2 p hp e.symm
      rw [← e]
      exact hk hy1
  have n1 : Near ops y.o (x.app s) s := near_back (fun q hq => a1 _ (kx q hq)) fxs
  have n2 : Near ops x.o s (y.app s) := near_of (fun q hq => a3 _ (ky q hq)) fys hI.fx
  have heq : Eqv (y.app (x.app s)) (x.app (y.app s)) := by
    have hdis : ∀ p ∈ x.tv, ∀ q ∈ y.tv, q.1 ≠ p.1 := fun p hp q hq e => a2 p.1 (kx p hp) (e ▸ ky q hq)
    refine ⟨fun i => ?_, fun i => ?_, fun d => ?_, fun d => ?_⟩
    · by_cases hi : ∀ p ∈ x.tv, p.1 ≠ i
      · show lkT (x.tv ++ (y.tv ++ s.tm)) i = lkT (y.tv ++ (x.tv ++ s.tm)) i
        rw [lkT_skip hi]
        exact (lkT_app (lkT_skip hi) _).symm
      · have hi' : ∀ q ∈ y.tv, q.1 ≠ i := by
          intro q hq e
          refine hi fun p hp e' => hdis p hp q hq (e.trans e'.symm)
        show lkT (x.tv ++ (y.tv ++ s.tm)) i = lkT (y.tv ++ (x.tv ++ s.tm)) i
        rw [lkT_skip (b := x.tv ++ s.tm) hi']
        exact lkT_app (lkT_skip hi') _
    · by_cases hi : ∀ p ∈ x.hv, p.1 ≠ i
      · show lkH (x.hv ++ (y.hv ++ s.hp)) i = lkH (y.hv ++ (x.hv ++ s.hp)) i
        rw [lkH_skip hi]
        exact (lkH_app (lkH_skip hi) _).symm
      · have hi' : ∀ q ∈ y.hv, q.1 ≠ i := by
          intro q hq e
          refine hi fun p hp e' => (hI.xy p hp).2 q hq (e.trans e'.symm)
        show lkH (x.hv ++ (y.hv ++ s.hp)) i = lkH (y.hv ++ (x.hv ++ s.hp)) i
        rw [lkH_skip (b := x.hv ++ s.hp) hi']
        exact lkH_app (lkH_skip hi') _
    · simp only [It.app, mentTm_app]; cases mentTm d x.tv <;> cases mentTm d y.tv <;> rfl
    · simp only [It.app, mentHp_app]; cases mentHp d x.hv <;> cases mentHp d y.hv <;> rfl
  obtain ⟨k1, k2⟩ := tr_eqv heq hl
  obtain ⟨_, _, o1⟩ := effOp3_near (T := T) (G := G) (H := H) (N := N) n1
  obtain ⟨_, _, o2⟩ := effOp3_near (T := T) (G := G) (H := H) (N := N) n2
  have ehx : (effOp3 T G H N ops x.o s).hv = x.hv := (congrArg It.hv hx2).symm
  have ehy : (effOp3 T G H N ops y.o (x.app s)).hv = y.hv := (congrArg It.hv hy2).symm
  have f1 : FreeK (x.app s) s y.o.dst (effOp3 T G H N ops y.o (x.app s)).hv := by
    rw [ehy]
    intro e _ p hp _
    refine ⟨fun q => ?_, fun q => ?_, fun q => ?_⟩
    · simp only [It.app, mentTm_app, Bool.or_eq_false_iff] at q; exact q.2
    · simp only [It.app, mentHp_app, Bool.or_eq_false_iff] at q; exact q.2
    · have : lkH (x.app s).hp p.1 = lkH s.hp p.1 := lkH_skip fun q hq e => (hI.xy q hq).2 p hp e.symm
      rw [← this]; exact q
  have f2 : FreeK s (y.app s) x.o.dst (effOp3 T G H N ops x.o s).hv := by
    rw [ehx]
    intro e he p hp ho
    obtain ⟨k1, k2⟩ := hI.kx e he p hp ho
    refine ⟨fun q => ?_, fun q => ?_, fun q => ?_⟩
    · simp only [It.app, mentTm_app, k1, q, Bool.or_false]
    · simp only [It.app, mentHp_app, k2, q, Bool.or_false]
    · have : lkH (y.app s).hp p.1 = lkH s.hp p.1 := lkH_skip fun q hq e => (hI.xy p hp).2 q hq e
      rw [this]; exact q
  exact ⟨⟨o1 f1 hy1, by rw [mkIt_near n1]; exact hy2, o2 f2 hx1, by rw [mkIt_near n2]; exact hx2, k1⟩, k2⟩

theorem tr_move {x : It} {l2 : List It} : ∀ {l1 : List It} {s : ISt}, Tr T G H N ops s (l1 ++ x :: l2) → (∀ y ∈ l1, Indep ops y x) → Tr T G H N ops s (x :: (l1 ++ l2)) ∧ Eqv (fin s (l1 ++ x :: l2)) (fin s (x :: (l1 ++ l2)))
  | [], s, h, _ => ⟨h, .refl _⟩
  | y :: l1, s, h, hI => by
    obtain ⟨h1, h2, h3⟩ := h
    obtain ⟨k1, k2⟩ := tr_move (l1 := l1) h3 (fun z hz => hI z (by simp [hz]))
    obtain ⟨j1, j2⟩ := tr_swap (x := y) (y := x) (l := l1 ++ l2) (s := s) ⟨h1, h2, k1⟩ (hI y (by simp))
    exact ⟨j1, k2.trans j2⟩

end
end Go.Ideal

/- A run in the text's order serves for every order. -/
set_option linter.unusedVariables false
set_option linter.unusedSimpArgs false
namespace Go.Ideal
open Go

def remI (n : Nat) (listed : Array Bool) : List Nat := (List.range n).filter fun i => !listed.getD i true

theorem getD_set {listed : Array Bool} {i j : Nat} (h : j ≠ i) : (listed.setIfInBounds i true).getD j true = listed.getD j true := by
  simp only [Array.getD_eq_getD_getElem?, Array.getElem?_setIfInBounds]
  rw [if_neg (Ne.symm h)]
theorem getD_set_self {listed : Array Bool} {i : Nat} : (listed.setIfInBounds i true).getD i true = true := by
  simp only [Array.getD_eq_getD_getElem?, Array.getElem?_setIfInBounds]
  by_cases h : i < listed.size <;> simp [h]

theorem range_split {n i : Nat} (hi : i < n) : List.range n = List.range i ++ i :: (List.range (n - i - 1)).map (fun j => i + (1 + j)) := by
  have e : n = i + (1 + (n - i - 1)) := by omega
  generalize n - i - 1 = m at e
  subst e
  rw [List.range_add, List.range_add]
  simp [Function.comp_def]

theorem remI_pick {n i : Nat} {listed : Array Bool} (hi : i < n) (hl : listed.getD i true = false) :
    ∃ l1 l2, remI n listed = l1 ++ i :: l2 ∧ remI n (listed.setIfInBounds i true) = l1 ++ l2 ∧ ∀ j ∈ l1, j < i ∧ listed.getD j true = false := by
  refine ⟨(List.range i).filter fun j => !listed.getD j true, ((List.range (n - i - 1)).map (fun j => i + (1 + j))).filter fun j => !listed.getD j true, ?_, ?_, ?_⟩
  · unfold remI
    rw [range_split hi, List.filter_append, List.filter_cons]
    simp only [hl, Bool.not_false, if_true]
  · unfold remI
    rw [range_split hi, List.filter_append, List.filter_cons]
    simp only [getD_set_self, Bool.not_true, Bool.false_eq_true, if_false]
    congr 1
    · apply List.filter_congr
      intro j hj
      rw [getD_set (by have := List.mem_range.1 hj; omega)]
    · apply List.filter_congr
      intro j hj
      obtain ⟨q, hq, rfl⟩ := List.mem_map.1 hj
      rw [getD_set (by omega)]
  · intro j hj
    obtain ⟨h1, h2⟩ := List.mem_filter.1 hj
    exact ⟨List.mem_range.1 h1, by simpa using h2⟩

theorem RepS.eqv {F : Fr} {μ κ : Nat → Nat} {s s' : ISt} {a : Act} {w : World} (R : RepS F μ κ s' a w) (h : Eqv s s') : RepS F μ κ s a w := by
  have hlk : lkH s'.hp = lkH s.hp := funext h.h
  have hc : ctx F μ κ s'.hp w = ctx F μ κ s.hp w := by unfold ctx avOf; rw [hlk]
  refine ⟨R.defers, R.size, R.chg, ?_, ?_, ?_, R.pin⟩
  · rw [← hlk]; exact R.inj
  · rw [← hlk, ← hc]; exact R.own
  · intro i
    rw [← hc, ← h.t i]
    exact R.tmps i

theorem RepS.drawn {F : Fr} {μ κ : Nat → Nat} {s : ISt} {a : Act} {w : World} (R : RepS F μ κ s a w) : RepS F μ κ s a { w with drawn := w.drawn + 1 } := by
  have L : (ctx F μ κ s.hp w).Le (ctx F μ κ s.hp { w with drawn := w.drawn + 1 }) (fun _ => True) := ⟨fun _ _ => .inr ⟨rfl, rfl, rfl⟩, fun _ _ h => h, Nat.le_refl _, fun _ _ _ _ => rfl⟩
  refine R.move (fun _ => True) ⟨R.chg.os, R.chg.tape, R.chg.output, R.chg.size, R.chg.block, Later.succ R.chg.drawn⟩ R.inj ?_ L (fun _ _ _ => trivial) (fun _ _ _ => ⟨rfl, rfl⟩)
  intro id blk hb
  obtain ⟨h1, h2, h3⟩ := R.own id blk hb
  exact ⟨RepB.mono L rfl rfl rfl (fun _ => rfl) (fun _ _ _ _ _ => trivial) h1, h2, h3⟩

/-- Does the later wait for the earlier, without a detour? -/
def edge (ops : List Oper) (j i : Nat) : Bool :=
  match ops[i]? with
  | some o => o.after.toList.any fun e => e.on == j && Region.binds .any e
  | none => false

/-- Do the edges lead back in the text? -/
def backB : Nat → List Oper → Bool
  | _, [] => true
  | i, o :: l => (o.after.toList.all fun e => !Region.binds .any e || decide (e.on < i)) && backB (i + 1) l

theorem backB_spec : ∀ {l : List Oper} {k : Nat}, backB k l = true → ∀ i o, l[i]? = some o → ∀ e ∈ o.after.toList, Region.binds .any e = true → e.on < k + i
  | [], k, _, i, o, h => by simp at h
  | o' :: l, k, hb, i, o, h => by
    simp only [backB, Bool.and_eq_true] at hb
    intro e he hbd
    cases i with
    | zero =>
      simp at h
      subst h
      have := List.all_eq_true.1 hb.1 e he
      rw [hbd] at this
      simpa using this
    | succ i =>
      have := backB_spec hb.2 i o (by simpa using h) e he hbd
      omega

section
variable {P : Program} {T : Nat → TD} {G : List (Nat × PSpec)} {H : List (Nat × HSpec)} {F : Fr}

theorem wpAny_tr (hT : TOK P T) (hG : GOKF P F G) (hH : HOK P H) {ops : List Oper} {it : Nat → It} (hit : ∀ i o, ops[i]? = some o → (it i).o = o) (hback : backB 0 ops = true)
    (hpair : ∀ j i, j < i → i < ops.length → edge ops j i = true ∨ Indep ops (it j) (it i)) {Q : Exit → Act → World → Prop} :
    ∀ (fuel : Nat) (listed : Array Bool) (s : ISt), (remI ops.length listed).length ≤ fuel → Tr T G H F.N ops s ((remI ops.length listed).map it) →
      (∀ s', Eqv (fin s ((remI ops.length listed).map it)) s' → ∀ μ κ a w, RepS F μ κ s' a w → Q .normal a w) →
      ∀ μ κ a w, RepS F μ κ s a w → wpAny P .any ⟨ops⟩ Q fuel listed a w := by
  intro fuel
  have hsz : (⟨ops⟩ : Array Oper).size = ops.length := rfl
  have hready : ∀ listed, Region.ready .any ⟨ops⟩ listed = [] → remI ops.length listed = [] := by
    intro listed hr
    apply Classical.byContradiction
    intro hne
    have hex : ∃ i, i < ops.length ∧ listed.getD i true = false := by
      cases hrem : remI ops.length listed with
      | nil => exact absurd hrem hne
      | cons i l =>
        have : i ∈ remI ops.length listed := by rw [hrem]; simp
        obtain ⟨h1, h2⟩ := List.mem_filter.1 this
        exact ⟨i, List.mem_range.1 h1, by simpa using h2⟩
    have hmin : ∃ i, (i < ops.length ∧ listed.getD i true = false) ∧ ∀ j, j < i → ¬ (j < ops.length ∧ listed.getD j true = false) := by
      obtain ⟨i, hi⟩ := hex
      induction i using Nat.strongRecOn with
      | _ i ih =>
        by_cases h : ∀ j, j < i → ¬ (j < ops.length ∧ listed.getD j true = false)
        · exact ⟨i, hi, h⟩
        · have : ∃ j, j < i ∧ (j < ops.length ∧ listed.getD j true = false) := by
            apply Classical.byContradiction
            intro hno
            exact h fun j hj hp => hno ⟨j, hj, hp⟩
          obtain ⟨j, hj, hp⟩ := this
          exact ih j hj hp
    obtain ⟨i, ⟨hi1, hi2⟩, hlow⟩ := hmin
    have : i ∈ Region.ready .any ⟨ops⟩ listed := by
      unfold Region.ready
      refine List.mem_filter.2 ⟨List.mem_range.2 (by rw [hsz]; exact hi1), ?_⟩
      have he : (⟨ops⟩ : Array Oper)[i]? = some ops[i] := by simp [hi1]
      simp only [hi2, he, Option.map_some, Option.getD_some, Bool.not_false, Bool.true_and]
      rw [Array.all_eq_true_iff_forall_mem]
      intro e hm
      cases hb : Region.binds .any e with
      | false => simp
      | true =>
        have hlt := backB_spec hback i ops[i] (by simp [hi1]) e (by simpa using hm) hb
        have := hlow e.on (by omega)
        have hon : e.on < ops.length := by omega
        cases hg : listed.getD e.on true with
        | false => exact absurd ⟨hon, hg⟩ this
        | true =>
          have : listed.getD e.on false = true := by
            simp only [Array.getD_eq_getD_getElem?] at hg ⊢
            cases hq : listed[e.on]? with
            | some b => rw [hq] at hg; simpa using hg
            | none =>
              exfalso
              have h1 : listed.size ≤ e.on := by simpa using hq
              have h2 : listed.getD i true = true := by
                simp only [Array.getD_eq_getD_getElem?]
                rw [Array.getElem?_eq_none (by omega)]
                rfl
              rw [h2] at hi2
              cases hi2
          rw [this]; simp
    rw [hr] at this
    simp at this
  induction fuel with
  | zero =>
    intro listed s hl ht hK μ κ a w R
    have hrem : remI ops.length listed = [] := List.eq_nil_of_length_eq_zero (by omega)
    refine ⟨?_, ?_⟩
    · apply List.eq_nil_iff_forall_not_mem.2
      intro i hi
      obtain ⟨h1, h2⟩ := List.mem_filter.1 hi
      have : i ∈ remI ops.length listed := List.mem_filter.2 ⟨by rw [hsz] at h1; exact h1, by simp only [Bool.and_eq_true] at h2; exact h2.1⟩
      rw [hrem] at this
      simp at this
    · rw [hrem] at hK
      exact hK s (.refl _) μ κ a w R
  | succ fuel ih =>
    intro listed s hl ht hK μ κ a w R
    refine ⟨fun hr => ?_, fun i hi => ?_⟩
    · rw [hready listed hr] at hK
      exact hK s (.refl _) μ κ a w R
    · obtain ⟨h1, h2⟩ := List.mem_filter.1 hi
      have hin : i < ops.length := by rw [hsz] at h1; exact List.mem_range.1 h1
      simp only [Bool.and_eq_true, Bool.not_eq_true'] at h2
      obtain ⟨h2, h3⟩ := h2
      have he : (⟨ops⟩ : Array Oper)[i]? = some ops[i] := by simp [hin]
      rw [he] at h3
      simp only [Option.map_some, Option.getD_some] at h3
      rw [Array.all_eq_true_iff_forall_mem] at h3
      obtain ⟨l1, l2, e1, e2, hl1⟩ := remI_pick hin h2
      have hind : ∀ y ∈ l1.map it, Indep ops y (it i) := by
        intro y hy
        obtain ⟨j, hj, rfl⟩ := List.mem_map.1 hy
        obtain ⟨k1, k2⟩ := hl1 j hj
        rcases hpair j i k1 hin with h | h
        · exfalso
          unfold edge at h
          rw [List.getElem?_eq_getElem hin] at h
          simp only [List.any_eq_true, Bool.and_eq_true, beq_iff_eq] at h
          obtain ⟨e, hm, rfl, hb⟩ := h
          have := h3 e (by simpa using hm)
          rw [hb] at this
          have h4 : listed.getD e.on false = true := by simpa using this
          simp only [Array.getD_eq_getD_getElem?] at h4 k2
          cases hq : listed[e.on]? with
          | some b => rw [hq] at h4 k2; simp at h4 k2; rw [h4] at k2; cases k2
          | none => rw [hq] at h4; simp at h4
        · exact h
      rw [e1] at ht hK
      simp only [List.map_append, List.map_cons] at ht hK
      obtain ⟨t1, t2⟩ := tr_move (l1 := l1.map it) (l2 := l2.map it) ht hind
      obtain ⟨q1, q2, q3⟩ := t1
      have ho : (it i).o = ops[i] := hit i ops[i] (by simp [hin])
      unfold wpOp
      rw [he]
      simp only []
      refine (effOp3_sound hT hG hH (ops := ops) (o := ops[i]) (by rw [← ho]; exact q1)) μ κ a w R Q _ ?_
      intro μ' κ' a' w' R'
      refine ih (listed.setIfInBounds i true) ((it i).app s) ?_ ?_ ?_ μ' κ' a' w' ?_
      · rw [e1] at hl
        rw [e2]
        simp only [List.length_append, List.length_cons] at hl ⊢
        omega
      · rw [e2, List.map_append]; exact q3
      · intro s' hs'
        rw [e2, List.map_append] at hs'
        exact hK s' (t2.trans hs')
      · have : s.app (effOp3 T G H F.N ops ops[i] s) = (it i).app s := by
          rw [← ho]
          conv => rhs; rw [q2]
          rfl
        rw [← this]
        exact R'


/-! A region whose last operations stand in a row: what comes ahead of them may be drawn, they run one by one. -/
def Closed (ops : List Oper) (listed : Array Bool) : Prop := ∀ q j, listed.getD q false = true → edge ops j q = true → listed.getD j false = true
theorem ready_edges {ops : List Oper} {listed : Array Bool} {i : Nat} (hi : i ∈ Region.ready .any ⟨ops⟩ listed) : i < ops.length ∧ listed.getD i true = false ∧ ∀ j, edge ops j i = true → listed.getD j false = true := by
  obtain ⟨h1, h2⟩ := List.mem_filter.1 hi
  have hin : i < ops.length := by simpa using h1
  simp only [Bool.and_eq_true, Bool.not_eq_true'] at h2
  obtain ⟨h2, h3⟩ := h2
  have he : (⟨ops⟩ : Array Oper)[i]? = some ops[i] := by simp [hin]
  rw [he] at h3
  simp only [Option.map_some, Option.getD_some] at h3
  rw [Array.all_eq_true_iff_forall_mem] at h3
  refine ⟨hin, h2, fun j h => ?_⟩
  unfold edge at h
  rw [List.getElem?_eq_getElem hin] at h
  simp only [List.any_eq_true, Bool.and_eq_true, beq_iff_eq] at h
  obtain ⟨e, hm, rfl, hb⟩ := h
  have := h3 e (by simpa using hm)
  rw [hb] at this
  simpa using this
theorem edge_back {ops : List Oper} (hback : backB 0 ops = true) {j i : Nat} (h : edge ops j i = true) : j < i := by
  unfold edge at h
  cases hi : ops[i]? with
  | none => rw [hi] at h; cases h
  | some o =>
    rw [hi] at h
    simp only [List.any_eq_true, Bool.and_eq_true, beq_iff_eq] at h
    obtain ⟨e, hm, rfl, hb⟩ := h
    have := backB_spec hback i o hi e hm hb
    omega
theorem ready_min {ops : List Oper} (hback : backB 0 ops = true) {listed : Array Bool} (hsz : listed.size = ops.length) {i : Nat} (hi : i < ops.length) (hu : listed.getD i true = false) (hlow : ∀ j, j < i → listed.getD j true = true) :
    i ∈ Region.ready .any ⟨ops⟩ listed := by
  unfold Region.ready
  refine List.mem_filter.2 ⟨List.mem_range.2 (by simpa using hi), ?_⟩
  have he : (⟨ops⟩ : Array Oper)[i]? = some ops[i] := by simp [hi]
  simp only [hu, he, Option.map_some, Option.getD_some, Bool.not_false, Bool.true_and]
  rw [Array.all_eq_true_iff_forall_mem]
  intro e hm
  cases hb : Region.binds .any e with
  | false => simp
  | true =>
    have hlt := backB_spec hback i ops[i] (by simp [hi]) e (by simpa using hm) hb
    have := hlow e.on (by omega)
    simp only [Array.getD_eq_getD_getElem?] at this ⊢
    rw [Array.getElem?_eq_getElem (by omega)] at this ⊢
    simpa using this
def sufOK (ops : List Oper) (m : Nat) : Prop := ∀ k, m ≤ k → k < ops.length → ∀ j, j < k → ∃ q, j < q ∧ q ≤ k ∧ edge ops j q = true
def sufB (ops : List Oper) (m : Nat) : Bool := (List.range ops.length).all fun k => decide (k < m) || (List.range k).all fun j => (List.range (k + 1)).any fun q => decide (j < q) && edge ops j q
theorem sufB_ok {ops : List Oper} {m : Nat} (h : sufB ops m = true) : sufOK ops m := by
  intro k hm hk j hj
  have h1 := List.all_eq_true.1 h k (List.mem_range.2 hk)
  simp only [Bool.or_eq_true, decide_eq_true_eq] at h1
  rcases h1 with h1 | h1
  · omega
  · have h2 := List.all_eq_true.1 h1 j (List.mem_range.2 hj)
    simp only [List.any_eq_true, Bool.and_eq_true, decide_eq_true_eq, List.mem_range] at h2
    obtain ⟨q, h3, h4, h5⟩ := h2
    exact ⟨q, h4, by omega, h5⟩
theorem ready_all {ops : List Oper} {listed : Array Bool} (hcl : Closed ops listed) {k : Nat} (hk : k ∈ Region.ready .any ⟨ops⟩ listed) (hs : ∀ j, j < k → ∃ q, j < q ∧ q ≤ k ∧ edge ops j q = true) : ∀ j, j < k → listed.getD j false = true := by
  obtain ⟨_, _, he⟩ := ready_edges hk
  intro j
  generalize hd : k - j = d
  induction d using Nat.strongRecOn generalizing j with
  | _ d ih =>
    intro hj
    obtain ⟨q, h1, h2, h3⟩ := hs j hj
    rcases Nat.lt_or_ge q k with h | h
    · exact hcl q j (ih (k - q) (by omega) q rfl h) h3
    · have : q = k := by omega
      subst this
      exact he j h3
theorem getD_tf {listed : Array Bool} {i : Nat} (h : listed.getD i false = true) : listed.getD i true = true := by
  simp only [Array.getD_eq_getD_getElem?] at h ⊢
  cases hq : listed[i]? with
  | none => rw [hq] at h; simp at h
  | some b => rw [hq] at h; simpa using h
theorem getD_ft {listed : Array Bool} {i : Nat} (hs : i < listed.size) (h : listed.getD i true = true) : listed.getD i false = true := by
  simp only [Array.getD_eq_getD_getElem?] at h ⊢
  rw [Array.getElem?_eq_getElem hs] at h ⊢
  simpa using h
theorem closed_set {ops : List Oper} {listed : Array Bool} (hcl : Closed ops listed) {i : Nat} (he : ∀ j, edge ops j i = true → listed.getD j false = true) : Closed ops (listed.setIfInBounds i true) := by
  have up : ∀ j, listed.getD j false = true → (listed.setIfInBounds i true).getD j false = true := by
    intro j h
    simp only [Array.getD_eq_getD_getElem?, Array.getElem?_setIfInBounds] at h ⊢
    split
    · split
      · rfl
      · rename_i h1 h2
        subst h1
        rw [Array.getElem?_eq_none (by omega)] at h
        simp at h
    · exact h
  intro q j hq hj
  by_cases h : i = q
  · subst h; exact up j (he j hj)
  · have : listed.getD q false = true := by
      simp only [Array.getD_eq_getD_getElem?, Array.getElem?_setIfInBounds] at hq ⊢
      rw [if_neg h] at hq
      exact hq
    exact up j (hcl q j this hj)

theorem wpAny_pre (hT : TOK P T) (hG : GOKF P F G) (hH : HOK P H) {ops : List Oper} {it : Nat → It} {m : Nat} (hm : m ≤ ops.length) (hit : ∀ i o, i < m → ops[i]? = some o → (it i).o = o) (hback : backB 0 ops = true) (hsuf : sufOK ops m)
    (hpair : ∀ j i, j < i → i < m → edge ops j i = true ∨ Indep ops (it j) (it i)) {Q : Exit → Act → World → Prop} :
    ∀ (fuel : Nat) (listed : Array Bool) (s : ISt), listed.size = ops.length → Closed ops listed → (∀ i, m ≤ i → i < ops.length → listed.getD i true = false) → (remI m listed).length + (ops.length - m) ≤ fuel → Tr T G H F.N ops s ((remI m listed).map it) →
      (∀ s', Eqv (fin s ((remI m listed).map it)) s' → ∀ listed' : Array Bool, listed'.size = ops.length → Closed ops listed' → (∀ i, i < m → listed'.getD i true = true) → (∀ i, m ≤ i → i < ops.length → listed'.getD i true = false) → ∀ fuel', ops.length - m ≤ fuel' →
        ∀ μ κ a w, RepS F μ κ s' a w → wpAny P .any ⟨ops⟩ Q fuel' listed' a w) →
      ∀ μ κ a w, RepS F μ κ s a w → wpAny P .any ⟨ops⟩ Q fuel listed a w := by
  have hall : ∀ listed : Array Bool, remI m listed = [] → ∀ i, i < m → listed.getD i true = true := by
    intro listed h i hi
    cases hq : listed.getD i true with
    | true => rfl
    | false =>
      have : i ∈ remI m listed := List.mem_filter.2 ⟨List.mem_range.2 hi, by simp [hq]⟩
      rw [h] at this; simp at this
  intro fuel
  induction fuel with
  | zero =>
    intro listed s hsz hcl hsf hl ht hK μ κ a w R
    have hrem : remI m listed = [] := List.eq_nil_of_length_eq_zero (by omega)
    rw [hrem] at hK
    exact hK s (.refl _) listed hsz hcl (hall listed hrem) hsf 0 (by omega) μ κ a w R
  | succ fuel ih =>
    intro listed s hsz hcl hsf hl ht hK μ κ a w R
    by_cases hrem : remI m listed = []
    · rw [hrem] at hK
      exact hK s (.refl _) listed hsz hcl (hall listed hrem) hsf (fuel + 1) (by rw [hrem] at hl; simp at hl; omega) μ κ a w R
    · have hready : ∀ i ∈ Region.ready .any ⟨ops⟩ listed, i < m := by
        intro i hi
        rcases Nat.lt_or_ge i m with h | h
        · exact h
        · exfalso
          obtain ⟨hin, _, _⟩ := ready_edges hi
          have := ready_all hcl hi (hsuf i h hin)
          apply hrem
          refine List.filter_eq_nil_iff.2 fun j hj => ?_
          have hj' := List.mem_range.1 hj
          rw [getD_tf (this j (by omega))]
          simp
      refine ⟨fun hr => ?_, fun i hi => ?_⟩
      · exfalso
        have hex : ∃ i, i < m ∧ listed.getD i true = false := by
          cases hr2 : remI m listed with
          | nil => exact absurd hr2 hrem
          | cons i l =>
            have : i ∈ remI m listed := by rw [hr2]; simp
            obtain ⟨h1, h2⟩ := List.mem_filter.1 this
            exact ⟨i, List.mem_range.1 h1, by simpa using h2⟩
        have hmin : ∃ i, (i < m ∧ listed.getD i true = false) ∧ ∀ j, j < i → ¬ (j < m ∧ listed.getD j true = false) := by
          obtain ⟨i, hi⟩ := hex
          induction i using Nat.strongRecOn with
          | _ i ih =>
            by_cases h : ∀ j, j < i → ¬ (j < m ∧ listed.getD j true = false)
            · exact ⟨i, hi, h⟩
            · have : ∃ j, j < i ∧ (j < m ∧ listed.getD j true = false) := by
                apply Classical.byContradiction
                intro hno
                exact h fun j hj hp => hno ⟨j, hj, hp⟩
              obtain ⟨j, hj, hp⟩ := this
              exact ih j hj hp
        obtain ⟨i, ⟨hi1, hi2⟩, hlow⟩ := hmin
        have := ready_min hback hsz (show i < ops.length by omega) hi2 (fun j hj => by
          cases hq : listed.getD j true with
          | true => rfl
          | false => exact absurd ⟨by omega, hq⟩ (hlow j hj))
        rw [hr] at this
        simp at this
      · have him := hready i hi
        obtain ⟨hin, h2, h3⟩ := ready_edges hi
        have he : (⟨ops⟩ : Array Oper)[i]? = some ops[i] := by simp [hin]
        obtain ⟨l1, l2, e1, e2, hl1⟩ := remI_pick him h2
        have hind : ∀ y ∈ l1.map it, Indep ops y (it i) := by
          intro y hy
          obtain ⟨j, hj, rfl⟩ := List.mem_map.1 hy
          obtain ⟨k1, k2⟩ := hl1 j hj
          rcases hpair j i k1 him with h | h
          · exact absurd (getD_tf (h3 j h)) (by rw [k2]; simp)
          · exact h
        rw [e1] at ht hK
        simp only [List.map_append, List.map_cons] at ht hK
        obtain ⟨t1, t2⟩ := tr_move (l1 := l1.map it) (l2 := l2.map it) ht hind
        obtain ⟨q1, q2, q3⟩ := t1
        have ho : (it i).o = ops[i] := hit i ops[i] him (by simp [hin])
        unfold wpOp
        rw [he]
        simp only []
        refine (effOp3_sound hT hG hH (ops := ops) (o := ops[i]) (by rw [← ho]; exact q1)) μ κ a w R Q _ ?_
        intro μ' κ' a' w' R'
        refine ih (listed.setIfInBounds i true) ((it i).app s) (by simpa using hsz) (closed_set hcl h3) ?_ ?_ ?_ ?_ μ' κ' a' w' ?_
        · intro k hk1 hk2
          rw [getD_set (by omega)]
          exact hsf k hk1 hk2
        · rw [e1] at hl
          rw [e2]
          simp only [List.length_append, List.length_cons] at hl ⊢
          omega
        · rw [e2, List.map_append]; exact q3
        · intro s' hs'
          rw [e2, List.map_append] at hs'
          exact hK s' (t2.trans hs')
        · have : s.app (effOp3 T G H F.N ops ops[i] s) = (it i).app s := by
            rw [← ho]
            conv => rhs; rw [q2]
            rfl
          rw [← this]
          exact R'

end
end Go.Ideal

/- Code without loops, at one go: what it asks. Regions that draw an order are checked for it. -/
set_option linter.unusedVariables false
set_option linter.unusedSimpArgs false
namespace Go.Ideal
open Go

def vcIts (T : Nat → TD) (G : List (Nat × PSpec)) (H : List (Nat × HSpec)) (N : Nat) (ops : List Oper) : List Oper → List It → ISt → (List It → ISt → Prop) → Prop
  | [], acc, s, K => K acc s
  | o :: l, acc, s, K => (effOp3 T G H N ops o s).ob ∧ vcIts T G H N ops l (acc ++ [⟨o, (effOp3 T G H N ops o s).tv, (effOp3 T G H N ops o s).hv, o.op.operands.toList.map (opI s.tm)⟩]) (s.app (effOp3 T G H N ops o s)) K

def freshB (x y : It) : Bool :=
  bif heapy x.o.op then (match x.o.dst with | some d => !mentTm d y.tv && !mentHp d y.hv | none => true) else true
/-- y looks at no memory, or at makes that a store of x leaves. -/
def seeB (x y : It) : Bool := see y.o.op == 0 || (see y.o.op == 1 && isStore x.o.op)
def farB (x : It) : List (Nat × Option IBlk) → It → Bool
  | [], _ => true
  | (i, _) :: l, y => (seeB x y || !IV.mentL i y.vals) && (y.hv.all fun q => !(q.1 == i)) && farB x l y
def freshK1 (d : Nat) : List (Nat × Option IBlk) → It → Bool
  | [], _ => true
  | (i, _) :: l, y => (bif ownId d i then !mentTm i y.tv && !mentHp i y.hv else true) && freshK1 d l y
def freshK (x y : It) : Bool := match x.o.dst with
  | some d => freshK1 d x.hv y
  | none => true
def indB (x y : It) : Bool := farB x x.hv y && farB y y.hv x && freshB x y && freshB y x && freshK x y
theorem freshK1_mem {d : Nat} {y : It} : ∀ {l : List (Nat × Option IBlk)}, freshK1 d l y = true → ∀ p ∈ l, ownId d p.1 = true → mentTm p.1 y.tv = false ∧ mentHp p.1 y.hv = false
  | [], _, p, hp, _ => by simp at hp
  | (i, b) :: l, h, p, hp, ho => by
    simp only [freshK1, Bool.and_eq_true] at h
    rcases List.mem_cons.1 hp with rfl | hp
    · have h1 := h.1
      simp only at ho
      rw [ho] at h1
      simpa using h1
    · exact freshK1_mem h.2 p hp ho
theorem freshK_spec {x y : It} (h : freshK x y = true) : ∀ e, x.o.dst = some e → ∀ p ∈ x.hv, ownId e p.1 = true → mentTm p.1 y.tv = false ∧ mentHp p.1 y.hv = false := by
  intro e he p hp ho
  unfold freshK at h
  rw [he] at h
  exact freshK1_mem h p hp ho
def dynOK (its : List It) : List (Nat × Nat) → Prop
  | [] => True
  | (j, i) :: l => indB (its.getD j default) (its.getD i default) = true ∧ dynOK its l

def pairsOf : List (Nat × List (Nat × Nat)) → Nat → List (Nat × Nat)
  | [], _ => []
  | (j, p) :: l, i => if j = i then p else pairsOf l i

/-- A region's pairs: each waits, or may be swapped for what is plain to see, or is among those that are looked at when it runs. -/
def pairB (ops : List Oper) (ps : List (Nat × Nat)) (j i : Nat) : Bool :=
  edge ops j i || (match ops[j]?, ops[i]? with | some x, some y => Oper.apart ⟨ops⟩ x y && ((!heapy x.op && !heapy y.op) || ps.contains (j, i)) | _, _ => false)
def statB (ops : List Oper) (ps : List (Nat × Nat)) : Bool := backB 0 ops && (List.range ops.length).all fun i => (List.range i).all fun j => pairB ops ps j i
/-- The same; a first pair (m, m) says that the operations from the m-th on stand in a row. -/
def statR (ops : List Oper) : List (Nat × Nat) → Bool
  | [] => statB ops []
  | p :: ps => bif p.1 == p.2 then Nat.ble p.1 ops.length && backB 0 ops && sufB ops p.1 && ((List.range p.1).all fun i => (List.range i).all fun j => pairB ops ps j i) else statB ops (p :: ps)
/-- The regions of code outside its loops. -/
def statC (D : List (Nat × List (Nat × Nat))) : Code → Bool
  | .region id ops true => statR ops.toList (pairsOf D id)
  | .seq x y => statC D x && statC D y
  | .cond _ x y => statC D x && statC D y
  | .block _ c => statC D c
  | _ => true

/-- What code asks at a state. A loop is left as it stands. -/
def vc (P : Program) (F : Fr) (T : Nat → TD) (G : List (Nat × PSpec)) (H : List (Nat × HSpec)) (D : List (Nat × List (Nat × Nat))) : Code → ISt → (Exit → ISt → Prop) → Prop
  | .region _ ops false, s, Q => vcOps2 T G H F.N ops.toList ops.toList s (Q .normal)
  | .region id ops true, s, Q => match pairsOf D id with
    | [] => vcOps3 T G H F.N ops.toList ops.toList s (Q .normal)
    | p :: ps => bif p.1 == p.2 then vcIts T G H F.N ops.toList (ops.toList.take p.1) [] s (fun its s' => dynOK its ps ∧ vcOps2 T G H F.N ops.toList (ops.toList.drop p.1) s' (Q .normal))
      else vcIts T G H F.N ops.toList ops.toList [] s (fun its s' => dynOK its (p :: ps) ∧ Q .normal s')
  | .seq x y, s, Q => vc P F T G H D x s (seqK (fun s' => vc P F T G H D y s' Q) Q)
  | .skip, s, Q => Q .normal s
  | .ret, s, Q => Q .ret s
  | .exit i, s, Q => Q (.exit i) s
  | .block i c, s, Q => vc P F T G H D c s (blockQ i Q)
  | .cond c x y, s, Q => ∃ b, asB (opI s.tm c) = some b ∧ (b ≠ some false → vc P F T G H D x s Q) ∧ (b ≠ some true → vc P F T G H D y s Q)
  | c, s, Q => IWp P F c s Q

section
variable {P : Program} {T : Nat → TD} {G : List (Nat × PSpec)} {H : List (Nat × HSpec)} {F : Fr} {D : List (Nat × List (Nat × Nat))}

theorem tr_items {N : Nat} {ops : List Oper} : ∀ {l : List It} {s : ISt}, Tr T G H N ops s l → ∀ x ∈ l, ∃ s', x = mkIt T G H N ops x.o s'
  | [], _, _, x, hx => by simp at hx
  | y :: l, s, h, x, hx => by
    obtain ⟨h1, h2, h3⟩ := h
    rcases List.mem_cons.1 hx with rfl | hx
    · exact ⟨s, h2⟩
    · exact tr_items h3 x hx

theorem vcOps_tr {N : Nat} {ops : List Oper} {K : ISt → Prop} : ∀ {l : List Oper} {s : ISt}, vcOps3 T G H N ops l s K → ∃ its, its.map It.o = l ∧ Tr T G H N ops s its ∧ K (fin s its)
  | [], s, h => ⟨[], rfl, trivial, h⟩
  | o :: l, s, h => by
    obtain ⟨h1, h2⟩ := h
    obtain ⟨its, k1, k2, k3⟩ := vcOps_tr h2
    refine ⟨mkIt T G H N ops o s :: its, by simp [k1]; rfl, ⟨h1, rfl, k2⟩, k3⟩

theorem vcIts_tr {N : Nat} {ops : List Oper} {K : List It → ISt → Prop} : ∀ {l : List Oper} {acc : List It} {s : ISt}, vcIts T G H N ops l acc s K → ∃ its, its.map It.o = l ∧ Tr T G H N ops s its ∧ K (acc ++ its) (fin s its)
  | [], acc, s, h => ⟨[], rfl, trivial, by simpa [fin, vcIts] using h⟩
  | o :: l, acc, s, h => by
    obtain ⟨h1, h2⟩ := h
    obtain ⟨its, k1, k2, k3⟩ := vcIts_tr h2
    refine ⟨mkIt T G H N ops o s :: its, by simp [k1]; rfl, ⟨h1, rfl, k2⟩, ?_⟩
    have : acc ++ [(⟨o, (effOp3 T G H N ops o s).tv, (effOp3 T G H N ops o s).hv, o.op.operands.toList.map (opI s.tm)⟩ : It)] ++ its = acc ++ mkIt T G H N ops o s :: its := by simp [mkIt]
    rw [this] at k3
    exact k3

theorem seeB_spec {x y : It} (h : seeB x y = true) : seeOK x y := by
  unfold seeB at h
  simp only [Bool.or_eq_true, Bool.and_eq_true, beq_iff_eq] at h
  exact h
theorem farB_spec {x y : It} : ∀ {l : List (Nat × Option IBlk)}, farB x l y = true → ∀ p ∈ l, (IV.mentL p.1 y.vals = false ∨ seeOK x y) ∧ ∀ q ∈ y.hv, q.1 ≠ p.1
  | [], _, p, hp => by simp at hp
  | (i, b) :: l, h, p, hp => by
    simp only [farB, Bool.and_eq_true] at h
    rcases List.mem_cons.1 hp with rfl | hp
    · refine ⟨?_, fun q hq => ?_⟩
      · have h1 := h.1.1
        cases hs : seeB x y with
        | true => exact .inr (seeB_spec hs)
        | false => rw [hs] at h1; exact .inl (by simpa using h1)
      have := List.all_eq_true.1 h.1.2 q hq
      simpa using this
    · exact farB_spec h.2 p hp

theorem freshB_spec {x y : It} (h : freshB x y = true) (hh : heapy x.o.op = true) : ∀ d, x.o.dst = some d → mentTm d y.tv = false ∧ mentHp d y.hv = false := by
  intro d hd
  unfold freshB at h
  rw [hh, hd] at h
  simpa using h

theorem dynOK_mem {its : List It} : ∀ {ps : List (Nat × Nat)}, dynOK its ps → ∀ j i, (j, i) ∈ ps → indB (its.getD j default) (its.getD i default) = true
  | [], _, j, i, h => by simp at h
  | (a, b) :: ps, hd, j, i, h => by
    obtain ⟨h1, h2⟩ := hd
    rcases List.mem_cons.1 h with e | h
    · injection e with e1 e2; subst e1 e2; exact h1
    · exact dynOK_mem h2 j i h

theorem remI_all (n : Nat) : remI n (Array.replicate n false) = List.range n := by
  unfold remI
  refine List.filter_eq_self.2 fun i hi => ?_
  have := List.mem_range.1 hi
  simp [Array.getD_eq_getD_getElem?, this]

theorem map_getD {its : List It} : (List.range its.length).map (fun i => its.getD i default) = its := by
  apply List.ext_getElem
  · simp
  · intro i h1 h2
    simp [h2]

theorem iwp_draw (hT : TOK P T) (hm : P.follows .mixedOrders = true) (hG : GOKF P F G) (hH : HOK P H) {id : Nat} {ops : List Oper} {ps : List (Nat × Nat)} (hs : statB ops ps = true) {s : ISt} {Q : Exit → ISt → Prop} {its : List It} (h1 : its.map It.o = ops) (h2 : Tr T G H F.N ops s its)
    (h3 : dynOK its ps) (h4 : Q .normal (fin s its)) : IWp P F (.region id ⟨ops⟩ true) s Q := by
  intro μ κ a w R
  refine wp_region_any hm ?_
  have hlen : its.length = ops.length := by rw [← h1]; simp
  have hsz : (⟨ops⟩ : Array Oper).size = ops.length := rfl
  unfold statB at hs
  simp only [Bool.and_eq_true] at hs
  have hrem : (remI ops.length (Array.replicate (⟨ops⟩ : Array Oper).size false)).map (fun i => its.getD i default) = its := by
    rw [hsz, remI_all, ← hlen, map_getD]
  refine wpAny_tr hT hG hH (it := fun i => its.getD i default) ?_ hs.1 ?_ _ _ s ?_ (by rw [hrem]; exact h2) (by rw [hrem]; exact fun s' hs' μ κ a w R => ⟨μ, κ, _, R.eqv hs', h4⟩) μ κ a _ R.drawn
  · intro i o hi
    rw [← h1] at hi
    simp only [List.getElem?_map] at hi
    cases hx : its[i]? with
    | none => rw [hx] at hi; simp at hi
    | some x => rw [hx] at hi; simp at hi; simp [List.getD, hx, hi]
  · intro j i hji hi
    have hp := List.all_eq_true.1 (List.all_eq_true.1 hs.2 i (List.mem_range.2 hi)) j (List.mem_range.2 hji)
    unfold pairB at hp
    cases he : edge ops j i with
    | true => exact .inl rfl
    | false =>
      right
      have hj : j < ops.length := by omega
      rw [he, List.getElem?_eq_getElem hi, List.getElem?_eq_getElem hj] at hp
      simp only [Bool.false_or, Bool.and_eq_true] at hp
      obtain ⟨ha, hr⟩ := hp
      have hij : i < its.length := by omega
      have hjj : j < its.length := by omega
      have ei : its.getD i default = its[i] := by simp [List.getD, hij]
      have ej : its.getD j default = its[j] := by simp [List.getD, hjj]
      have oi : (its[i]).o = ops[i] := by
        have : (its.map It.o)[i]'(by simpa using hij) = its[i].o := by simp
        rw [← this]; congr 1
      have oj : (its[j]).o = ops[j] := by
        have : (its.map It.o)[j]'(by simpa using hjj) = its[j].o := by simp
        rw [← this]; congr 1
      show Indep ops (its.getD j default) (its.getD i default)
      by_cases hst : heapy ops[j].op = false ∧ heapy ops[i].op = false
      · obtain ⟨q1, q2⟩ := hst
        have emp : ∀ x ∈ its, heapy x.o.op = false → x.hv = [] := by
          intro x hx hh
          obtain ⟨s', hs'⟩ := tr_items h2 x hx
          rw [hs']
          exact effOp3_still hh
        have vj := emp its[j] (List.getElem_mem hjj) (by rw [oj]; exact q1)
        have vi := emp its[i] (List.getElem_mem hij) (by rw [oi]; exact q2)
        rw [ei, ej]
        refine ⟨by rw [oi, oj]; exact ha, by rw [vj]; simp, by rw [vi]; simp, fun hh => ?_, fun hh => ?_, by rw [vj]; simp⟩
        · rw [oj, q1] at hh; cases hh
        · rw [oi, q2] at hh; cases hh
      · have hmem : (j, i) ∈ ps := by
          rcases (Bool.or_eq_true _ _).mp hr with h | h
          · exact absurd (by simpa using h) hst
          · simpa using h
        have hd := dynOK_mem h3 j i hmem
        rw [ei, ej] at hd ⊢
        unfold indB at hd
        simp only [Bool.and_eq_true] at hd
        obtain ⟨⟨⟨⟨d1, d2⟩, d3⟩, d4⟩, d5⟩ := hd
        exact ⟨by rw [oi, oj]; exact ha, farB_spec d1, fun p hp => (farB_spec d2 p hp).1, freshB_spec d3, freshB_spec d4, freshK_spec d5⟩
  · rw [hsz, remI_all]
    simp


theorem wpAny_suf (hT : TOK P T) (hG : GOKF P F G) (hH : HOK P H) {ops : List Oper} {m : Nat} (hback : backB 0 ops = true) (hsuf : sufOK ops m) {Q : Exit → Act → World → Prop} {K : ISt → Prop} (hK : ∀ s μ κ a w, RepS F μ κ s a w → K s → Q .normal a w) :
    ∀ (l : List Oper) (i : Nat) (fuel : Nat) (listed : Array Bool) (s : ISt), ops.drop i = l → m ≤ i → listed.size = ops.length → (∀ j, j < i → j < ops.length → listed.getD j true = true) → (∀ j, i ≤ j → j < ops.length → listed.getD j true = false) → l.length ≤ fuel →
      vcOps2 T G H F.N ops l s K → ∀ μ κ a w, RepS F μ κ s a w → wpAny P .any ⟨ops⟩ Q fuel listed a w := by
  intro l
  induction l with
  | nil =>
    intro i fuel listed s hd hmi hsz hlo hhi hl hv μ κ a w R
    have hni : ops.length ≤ i := by simpa using hd
    have hr : Region.ready .any ⟨ops⟩ listed = [] := by
      apply List.eq_nil_iff_forall_not_mem.2
      intro k hk
      obtain ⟨h1, h2, _⟩ := ready_edges hk
      rw [hlo k (by omega) h1] at h2
      cases h2
    cases fuel with
    | zero => exact ⟨hr, hK s μ κ a w R hv⟩
    | succ fuel => exact ⟨fun _ => hK s μ κ a w R hv, fun k hk => by rw [hr] at hk; simp at hk⟩
  | cons o l ih =>
    intro i fuel listed s hd hmi hsz hlo hhi hl hv μ κ a w R
    have hil : i < ops.length := by
      rcases Nat.lt_or_ge i ops.length with h | h
      · exact h
      · rw [List.drop_eq_nil_of_le h] at hd; cases hd
    have hoi : ops[i] = o ∧ ops.drop (i + 1) = l := by
      rw [List.drop_eq_getElem_cons hil] at hd
      exact List.cons.inj hd
    cases fuel with
    | zero => simp at hl
    | succ fuel =>
      have hcl : Closed ops listed := by
        intro q j hq hj
        have hqj := edge_back hback hj
        have hqi : q < i := by
          rcases Nat.lt_or_ge q i with h | h
          · exact h
          · exfalso
            have hql : q < ops.length := by
              unfold edge at hj
              rcases Nat.lt_or_ge q ops.length with h | h
              · exact h
              · rw [List.getElem?_eq_none h] at hj; cases hj
            have := getD_tf hq
            rw [hhi q h hql] at this
            cases this
        exact getD_ft (by omega) (hlo j (by omega) (by omega))
      have hri := ready_min hback hsz hil (hhi i (Nat.le_refl _) hil) (fun j hj => hlo j hj (by omega))
      refine ⟨fun hr => by rw [hr] at hri; simp at hri, fun k hk => ?_⟩
      obtain ⟨h1, h2, h3⟩ := ready_edges hk
      have hki : k = i := by
        rcases Nat.lt_trichotomy k i with h | h | h
        · rw [hlo k h h1] at h2; cases h2
        · exact h
        · exfalso
          have := getD_tf (ready_all hcl hk (hsuf k (by omega) h1) i h)
          rw [hhi i (Nat.le_refl _) hil] at this
          cases this
      subst hki
      have he : (⟨ops⟩ : Array Oper)[k]? = some ops[k] := by simp [hil]
      unfold wpOp
      rw [he]
      simp only [hoi.1]
      obtain ⟨hv1, hv2⟩ := hv
      refine effOp2_sound hT hG hH hv1 μ κ a w R Q _ ?_
      intro μ' κ' a' w' R'
      refine ih (k + 1) fuel (listed.setIfInBounds k true) _ hoi.2 (by omega) (by simpa using hsz) ?_ ?_ (by simp at hl; omega) hv2 μ' κ' a' w' R'
      · intro j hj hjl
        by_cases hjk : j = k
        · subst hjk; exact getD_set_self
        · rw [getD_set hjk]; exact hlo j (by omega) hjl
      · intro j hj hjl
        rw [getD_set (by omega)]
        exact hhi j (by omega) hjl

theorem iwp_split (hT : TOK P T) (hm : P.follows .mixedOrders = true) (hG : GOKF P F G) (hH : HOK P H) {id : Nat} {ops : List Oper} {m : Nat} {ps : List (Nat × Nat)} (hml : m ≤ ops.length) (hback : backB 0 ops = true) (hsuf : sufOK ops m)
    (hs : ((List.range m).all fun i => (List.range i).all fun j => pairB ops ps j i) = true) {s : ISt} {Q : Exit → ISt → Prop} {its : List It} (h1 : its.map It.o = ops.take m) (h2 : Tr T G H F.N ops s its)
    (h3 : dynOK its ps) (h4 : vcOps2 T G H F.N ops (ops.drop m) (fin s its) (Q .normal)) : IWp P F (.region id ⟨ops⟩ true) s Q := by
  intro μ κ a w R
  refine wp_region_any hm ?_
  have hlen : its.length = m := by
    have := congrArg List.length h1
    simp at this
    omega
  have hsz : (⟨ops⟩ : Array Oper).size = ops.length := rfl
  have hgt : ∀ i, i < ops.length → (Array.replicate ops.length false).getD i true = false := by
    intro i hi
    simp [Array.getD_eq_getD_getElem?, hi]
  have hrem : (remI m (Array.replicate (⟨ops⟩ : Array Oper).size false)).map (fun i => its.getD i default) = its := by
    have : remI m (Array.replicate (⟨ops⟩ : Array Oper).size false) = List.range m := by
      unfold remI
      refine List.filter_eq_self.2 fun i hi => ?_
      rw [hsz, hgt i (by have := List.mem_range.1 hi; omega)]
      rfl
    rw [this, ← hlen, map_getD]
  have hoff : ∀ i, i < m → ∀ o, ops[i]? = some o → (its.getD i default).o = o := by
    intro i hi o ho
    have hx : (its.map It.o)[i]? = some o := by rw [h1, List.getElem?_take, if_pos hi]; exact ho
    simp only [List.getElem?_map] at hx
    cases hq : its[i]? with
    | none => rw [hq] at hx; simp at hx
    | some x => rw [hq] at hx; simp at hx; simp [List.getD, hq, hx]
  refine wpAny_pre hT hG hH (it := fun i => its.getD i default) hml (fun i o hi ho => hoff i hi o ho) hback hsuf ?_ _ _ s (by simp) ?_ ?_ ?_ (by rw [hrem]; exact h2) ?_ μ κ a _ R.drawn
  · intro j i hji hi
    have hp := List.all_eq_true.1 (List.all_eq_true.1 hs i (List.mem_range.2 hi)) j (List.mem_range.2 hji)
    unfold pairB at hp
    cases he : edge ops j i with
    | true => exact .inl rfl
    | false =>
      right
      have hjl : j < ops.length := by omega
      have hil : i < ops.length := by omega
      rw [he, List.getElem?_eq_getElem hil, List.getElem?_eq_getElem hjl] at hp
      simp only [Bool.false_or, Bool.and_eq_true] at hp
      obtain ⟨ha, hr⟩ := hp
      have hij : i < its.length := by omega
      have hjj : j < its.length := by omega
      have ei : its.getD i default = its[i] := by simp [List.getD, hij]
      have ej : its.getD j default = its[j] := by simp [List.getD, hjj]
      have oi : (its[i]).o = ops[i] := by rw [← ei]; exact hoff i hi _ (by simp [hil])
      have oj : (its[j]).o = ops[j] := by rw [← ej]; exact hoff j (by omega) _ (by simp [hjl])
      show Indep ops (its.getD j default) (its.getD i default)
      by_cases hst : heapy ops[j].op = false ∧ heapy ops[i].op = false
      · obtain ⟨q1, q2⟩ := hst
        have emp : ∀ x ∈ its, heapy x.o.op = false → x.hv = [] := by
          intro x hx hh
          obtain ⟨s', hs'⟩ := tr_items h2 x hx
          rw [hs']
          exact effOp3_still hh
        have vj := emp its[j] (List.getElem_mem hjj) (by rw [oj]; exact q1)
        have vi := emp its[i] (List.getElem_mem hij) (by rw [oi]; exact q2)
        rw [ei, ej]
        refine ⟨by rw [oi, oj]; exact ha, by rw [vj]; simp, by rw [vi]; simp, fun hh => ?_, fun hh => ?_, by rw [vj]; simp⟩
        · rw [oj, q1] at hh; cases hh
        · rw [oi, q2] at hh; cases hh
      · have hmem : (j, i) ∈ ps := by
          rcases (Bool.or_eq_true _ _).mp hr with h | h
          · exact absurd (by simpa using h) hst
          · simpa using h
        have hd := dynOK_mem h3 j i hmem
        rw [ei, ej] at hd ⊢
        unfold indB at hd
        simp only [Bool.and_eq_true] at hd
        obtain ⟨⟨⟨⟨d1, d2⟩, d3⟩, d4⟩, d5⟩ := hd
        exact ⟨by rw [oi, oj]; exact ha, farB_spec d1, fun p hp => (farB_spec d2 p hp).1, freshB_spec d3, freshB_spec d4, freshK_spec d5⟩
  · intro q j hq
    exfalso
    simp only [Array.getD_eq_getD_getElem?] at hq
    cases hx : (Array.replicate (⟨ops⟩ : Array Oper).size false)[q]? with
    | none => rw [hx] at hq; simp at hq
    | some b =>
      have : b = false := by
        rw [Array.getElem?_replicate] at hx
        split at hx
        · simpa using hx.symm
        · cases hx
      rw [hx, this] at hq
      simp at hq
  · intro i _ hi
    rw [hsz]; exact hgt i hi
  · have : (remI m (Array.replicate (⟨ops⟩ : Array Oper).size false)).length = m := by
      have := congrArg List.length hrem
      simp at this
      simp only [hsz]
      omega
    rw [this]
    simp only [hsz]
    omega
  · intro s' hs' listed' z1 z2 z3 z4 fuel' hf μ κ a w R'
    rw [hrem] at hs'
    exact wpAny_suf hT hG hH hback hsuf (K := Q .normal) (fun s μ κ a w R hk => ⟨μ, κ, s, R, hk⟩) (ops.drop m) m fuel' listed' (fin s its) rfl (Nat.le_refl _) z1 (fun j hj _ => z3 j hj) z4 (by rw [List.length_drop]; exact hf) h4 μ κ a w (R'.eqv hs')

theorem vc_sound (hT : TOK P T) (hm : P.follows .mixedOrders = true) (hG : GOKF P F G) (hH : HOK P H) : ∀ (c : Code) (s : ISt) (Q : Exit → ISt → Prop), statC D c = true → vc P F T G H D c s Q → IWp P F c s Q
  | .region id ops false, s, Q, _, h => iwp_region2 hT hG hH h
  | .region id ops true, s, Q, hs, h => by
    have e : ops = ⟨ops.toList⟩ := by simp
    simp only [statC] at hs
    simp only [vc] at h
    cases hp : pairsOf D id with
    | nil =>
      rw [hp] at h hs
      obtain ⟨its, h1, h2, h3⟩ := vcOps_tr h
      rw [e]
      exact iwp_draw hT hm hG hH hs h1 h2 trivial h3
    | cons p ps =>
      rw [hp] at h hs
      simp only [statR] at hs
      cases hq : p.1 == p.2 with
      | true =>
        simp only [hq, cond_true, Bool.and_eq_true] at h hs
        obtain ⟨its, h1, h2, h3, h4⟩ := vcIts_tr h
        rw [e]
        exact iwp_split hT hm hG hH (Nat.le_of_ble_eq_true hs.1.1.1) hs.1.1.2 (sufB_ok hs.1.2) hs.2 h1 h2 (by simpa using h3) h4
      | false =>
        simp only [hq, cond_false] at h hs
        obtain ⟨its, h1, h2, h3, h4⟩ := vcIts_tr h
        rw [e]
        exact iwp_draw hT hm hG hH hs h1 h2 (by simpa using h3) h4
  | .seq x y, s, Q, hs, h => by
    simp only [statC, Bool.and_eq_true] at hs
    refine iwp_seq (iwp_mono (vc_sound hT hm hG hH x s _ hs.1 h) ?_)
    intro e s' hq
    cases e with
    | normal => exact vc_sound hT hm hG hH y s' Q hs.2 hq
    | _ => exact hq
  | .skip, s, Q, _, h => iwp_skip h
  | .ret, s, Q, _, h => iwp_ret h
  | .exit i, s, Q, _, h => iwp_exit h
  | .block i c, s, Q, hs, h => by
    simp only [statC] at hs
    exact iwp_block (vc_sound hT hm hG hH c s _ hs h)
  | .cond c x y, s, Q, hs, h => by
    simp only [statC, Bool.and_eq_true] at hs
    obtain ⟨b, hb, hx, hy⟩ := h
    cases b with
    | none => exact iwp_cond_any (asB_none hb) (vc_sound hT hm hG hH x s Q hs.1 (hx (by simp))) (vc_sound hT hm hG hH y s Q hs.2 (hy (by simp)))
    | some b => exact iwp_cond (asB_some hb) (fun e => vc_sound hT hm hG hH x s Q hs.1 (hx (by simp [e]))) (fun e => vc_sound hT hm hG hH y s Q hs.2 (hy (by simp [e])))
  | .loop c, s, Q, _, h => h
  | .rangeFunc _ _ _ _, s, Q, _, h => h
  | .goto l, s, Q, _, h => h
  | .scope _, s, Q, _, h => h
  | .label _, s, Q, _, h => h
  | .refuse _, s, Q, _, h => h

end
end Go.Ideal

/- Code with what comes after it as a stack: rules that a rewriting can run. -/
set_option linter.unusedVariables false
set_option linter.unusedSimpArgs false
namespace Go.Ideal
open Go

inductive KF where
  | seq (c : Code)
  | block (i : Nat)
  | back (R : ISt → Prop)

/-- What is known of a program, and the frame. -/
structure Env where
  P : Program
  T : Nat → TD
  G : List (Nat × PSpec)
  H : List (Nat × HSpec)
  D : List (Nat × List (Nat × Nat))
  F : Fr

structure Env.OK (E : Env) : Prop where
  t : TOK E.P E.T
  m : E.P.follows .mixedOrders = true
  g : GOKF E.P E.F E.G
  h : HOK E.P E.H

def kr (E : Env) : List KF → (Exit → ISt → Prop) → Exit → ISt → Prop
  | [], Q => Q
  | .seq y :: K, Q => seqK (fun s => vc E.P E.F E.T E.G E.H E.D y s (kr E K Q)) (kr E K Q)
  | .block i :: K, Q => blockQ i (kr E K Q)
  | .back R :: K, Q => seqK R (kr E K Q)

def V (E : Env) (c : Code) (s : ISt) (K : List KF) (Q : Exit → ISt → Prop) : Prop := vc E.P E.F E.T E.G E.H E.D c s (kr E K Q)
def W (E : Env) (ops l : List Oper) (s : ISt) (K : List KF) (Q : Exit → ISt → Prop) : Prop := vcOps2 E.T E.G E.H E.F.N ops l s (kr E K Q .normal)
def WI (E : Env) (ps : List (Nat × Nat)) (ops l : List Oper) (acc : List It) (s : ISt) (K : List KF) (Q : Exit → ISt → Prop) : Prop := vcIts E.T E.G E.H E.F.N ops l acc s (fun its s' => dynOK its ps ∧ kr E K Q .normal s')
/-- The same without calls that hand blocks over: for regions that draw an order. -/
def WD (E : Env) (ops l : List Oper) (s : ISt) (K : List KF) (Q : Exit → ISt → Prop) : Prop := vcOps3 E.T E.G E.H E.F.N ops l s (kr E K Q .normal)
def KN (E : Env) (K : List KF) (Q : Exit → ISt → Prop) (s : ISt) : Prop := kr E K Q .normal s
def KX (E : Env) (e : Exit) (K : List KF) (Q : Exit → ISt → Prop) (s : ISt) : Prop := kr E K Q e s
/-- The end of all. -/
def QE (Q : Exit → ISt → Prop) (e : Exit) (s : ISt) : Prop := Q e s

section
variable {E : Env} {c x y : Code} {s : ISt} {K : List KF} {Q : Exit → ISt → Prop} {ops l : List Oper} {o : Oper}

theorem W_nil : W E ops [] s K Q = KN E K Q s := rfl
theorem W_cons : W E ops (o :: l) s K Q = ((effOp2 E.T E.G E.H E.F.N ops o s).ob ∧ W E ops l (s.app (effOp2 E.T E.G E.H E.F.N ops o s)) K Q) := rfl
theorem WD_nil : WD E ops [] s K Q = KN E K Q s := rfl
theorem WD_cons : WD E ops (o :: l) s K Q = ((effOp3 E.T E.G E.H E.F.N ops o s).ob ∧ WD E ops l (s.app (effOp3 E.T E.G E.H E.F.N ops o s)) K Q) := rfl
theorem WI_nil {ps : List (Nat × Nat)} {acc : List It} : WI E ps ops [] acc s K Q = (dynOK acc ps ∧ KN E K Q s) := rfl
theorem WI_cons {ps : List (Nat × Nat)} {acc : List It} : WI E ps ops (o :: l) acc s K Q = ((effOp3 E.T E.G E.H E.F.N ops o s).ob ∧
    WI E ps ops l (acc ++ [⟨o, (effOp3 E.T E.G E.H E.F.N ops o s).tv, (effOp3 E.T E.G E.H E.F.N ops o s).hv, o.op.operands.toList.map (opI s.tm)⟩]) (s.app (effOp3 E.T E.G E.H E.F.N ops o s)) K Q) := rfl
theorem KN_nil : KN E [] Q s = QE Q .normal s := rfl
theorem KN_seq : KN E (.seq y :: K) Q s = V E y s K Q := rfl
theorem KN_block {i : Nat} : KN E (.block i :: K) Q s = KN E K Q s := rfl
theorem KN_back {R : ISt → Prop} : KN E (.back R :: K) Q s = R s := rfl
theorem KXr_nil : KX E .ret [] Q s = QE Q .ret s := rfl
theorem KXr_seq : KX E .ret (.seq y :: K) Q s = KX E .ret K Q s := rfl
theorem KXr_block {i : Nat} : KX E .ret (.block i :: K) Q s = KX E .ret K Q s := rfl
theorem KXr_back {R : ISt → Prop} : KX E .ret (.back R :: K) Q s = KX E .ret K Q s := rfl
theorem KXe_nil {j : Nat} : KX E (.exit j) [] Q s = QE Q (.exit j) s := rfl
theorem KXe_seq {j : Nat} : KX E (.exit j) (.seq y :: K) Q s = KX E (.exit j) K Q s := rfl
theorem KXe_block {i j : Nat} : KX E (.exit j) (.block i :: K) Q s = if j = i then KN E K Q s else KX E (.exit j) K Q s := rfl
theorem KXe_back {j : Nat} {R : ISt → Prop} : KX E (.exit j) (.back R :: K) Q s = KX E (.exit j) K Q s := rfl

theorem V_seq : V E (.seq x y) s K Q = V E x s (.seq y :: K) Q := rfl
theorem V_skip : V E .skip s K Q = KN E K Q s := rfl
theorem V_ret : V E .ret s K Q = KX E .ret K Q s := rfl
theorem V_exit {i : Nat} : V E (.exit i) s K Q = KX E (.exit i) K Q s := rfl
theorem V_block {i : Nat} : V E (.block i x) s K Q = V E x s (.block i :: K) Q := rfl
theorem V_region {id : Nat} {a : Array Oper} : V E (.region id a false) s K Q = W E a.toList a.toList s K Q := rfl
/-- A region whose operations suf stand in a row behind those that are drawn. -/
def WS (E : Env) (ps : List (Nat × Nat)) (suf ops l : List Oper) (acc : List It) (s : ISt) (K : List KF) (Q : Exit → ISt → Prop) : Prop := vcIts E.T E.G E.H E.F.N ops l acc s (fun its s' => dynOK its ps ∧ vcOps2 E.T E.G E.H E.F.N ops suf s' (kr E K Q .normal))
theorem WS_nil {ps : List (Nat × Nat)} {suf : List Oper} {acc : List It} : WS E ps suf ops [] acc s K Q = (dynOK acc ps ∧ W E ops suf s K Q) := rfl
theorem WS_cons {ps : List (Nat × Nat)} {suf : List Oper} {acc : List It} : WS E ps suf ops (o :: l) acc s K Q = ((effOp3 E.T E.G E.H E.F.N ops o s).ob ∧
    WS E ps suf ops l (acc ++ [⟨o, (effOp3 E.T E.G E.H E.F.N ops o s).tv, (effOp3 E.T E.G E.H E.F.N ops o s).hv, o.op.operands.toList.map (opI s.tm)⟩]) (s.app (effOp3 E.T E.G E.H E.F.N ops o s)) K Q) := rfl
/-- What a region that draws its order is looked through for. -/
def drawW (E : Env) (a : List Oper) (s : ISt) (K : List KF) (Q : Exit → ISt → Prop) : List (Nat × Nat) → Prop
  | [] => WD E a a s K Q
  | p :: ps => bif p.1 == p.2 then WS E ps (a.drop p.1) a (a.take p.1) [] s K Q else WI E (p :: ps) a a [] s K Q
theorem V_draw {id : Nat} {a : Array Oper} : V E (.region id a true) s K Q = drawW E a.toList s K Q (pairsOf E.D id) := by
  show vc _ _ _ _ _ _ _ _ _ = _
  simp only [vc]
  cases pairsOf E.D id with
  | nil => rfl
  | cons p ps =>
    simp only [drawW]
    cases p.1 == p.2 <;> rfl
/-- A branch at a condition that is known by its value, or by its kind alone. -/
def brW (E : Env) (x y : Code) (s : ISt) (K : List KF) (Q : Exit → ISt → Prop) : Option (Option Bool) → Prop
  | some (some true) => V E x s K Q
  | some (some false) => V E y s K Q
  | some none => V E x s K Q ∧ V E y s K Q
  | none => False
theorem V_cond {k : Operand} : V E (.cond k x y) s K Q = brW E x y s K Q (asB (opI s.tm k)) := by
  show vc _ _ _ _ _ _ _ _ _ = _
  simp only [vc]
  cases asB (opI s.tm k) with
  | none => simp [brW]
  | some b =>
    cases b with
    | none => simp [brW, V]
    | some b => cases b <;> simp [brW, V]
theorem brW_true : brW E x y s K Q (some (some true)) = V E x s K Q := rfl
theorem brW_false : brW E x y s K Q (some (some false)) = V E y s K Q := rfl
theorem brW_any : brW E x y s K Q (some none) = (V E x s K Q ∧ V E y s K Q) := rfl
theorem brW_some {b : Bool} (ht : b = true → V E x s K Q) (hf : b = false → V E y s K Q) : brW E x y s K Q (some (some b)) := by
  cases b
  · exact hf rfl
  · exact ht rfl

/-- The rule of all: code outside loops. -/
theorem iwp_V (hE : E.OK) (hs : statC E.D c = true) (h : V E c s [] Q) : IWp E.P E.F c s Q := vc_sound hE.t hE.m hE.g hE.h c s Q hs h

theorem kr_stat (hE : E.OK) (hs : statC E.D c = true) (h : V E c s K Q) : IWp E.P E.F c s (kr E K Q) := vc_sound hE.t hE.m hE.g hE.h c s _ hs h

/-- A loop: at each round's head the state says no less than J of something that is in order. -/
def Back {α : Type} (Inv : α → Prop) (J : α → ISt) (m : α → Nat) (n : Nat) (s : ISt) : Prop := ∃ b ρ, Inv b ∧ m b < n ∧ SLe ρ s (J b)

theorem V_loop (hE : E.OK) (hs : statC E.D c = true) {α : Type} (Inv : α → Prop) (J : α → ISt) (m : α → Nat) (a0 : α) (ρ : Nat → Nat) (h0 : Inv a0) (hl : SLe ρ s (J a0))
    (round : ∀ a, Inv a → V E c (J a) (.back (Back Inv J m (m a)) :: K) Q) : V E (.loop c) s K Q := by
  show IWp E.P E.F (.loop c) s (kr E K Q)
  refine iwp_loop (fun n s' => ∃ a ρ, Inv a ∧ m a = n ∧ SLe ρ s' (J a)) (m a0) ⟨a0, ρ, h0, rfl, hl⟩ ?_
  rintro n s' ⟨a, ρ', ha, rfl, hs'⟩
  refine iwp_sle ρ' hs' ?_
  refine iwp_mono (kr_stat hE hs (round a ha)) ?_
  intro e s1 h1
  cases e with
  | normal =>
    obtain ⟨b, ρ1, q1, q2, q3⟩ := h1
    exact ⟨m b, q2, b, ρ1, q1, rfl, q3⟩
  | _ => exact h1

/-- A slice that was handed over is no longer than memory. -/
theorem V_len {t k : Nat} {es : List IV} (h0 : lkT s.tm t = .sl k es) (h : es.length ≤ maxLen → V E c s K Q) (hE : E.OK) (hs : statC E.D c = true) : IWp E.P E.F c s (kr E K Q) := by
  intro μ κ a w R
  have hr := R.tmps t
  rw [h0] at hr
  simp only [RepV] at hr
  obtain ⟨ad, n, cp, _, h1, h2, h3, _⟩ := hr
  exact kr_stat hE hs (h (by omega)) μ κ a w R

/-- A function's contract. -/
theorem icall_V {T : Nat → TD} {G : List (Nat × PSpec)} {H : List (Nat × HSpec)} {P : Program} (D : List (Nat × List (Nat × Nat))) (hT : TOK P T) (hm : P.follows .mixedOrders = true) (hG : GOK P G) (hH : HOK P H) {f : FuncId} {fn : Func} {args : List IV} {v : IV} {n : Nat} {res : Array ResultVar}
    (hf : P.funcs[f]? = some fn) (hb : fn.body = some c) (hN : fn.ntmps = n) (hr : fn.results = res) (hn : (Nat.ble args.length n && Nat.ble n 1000) = true) (hs : statC D c = true)
    (h : ∀ F : Fr, F.N = n → (∀ i k es, lkT (enumT 0 args) i = .sl k es → es.length ≤ maxLen) → V ⟨P, T, G, H, D, F⟩ c ⟨enumT 0 args, []⟩ [] (Fin res v)) : ICall P f args v := by
  rw [Bool.and_eq_true] at hn
  refine icall_of hf hb (by rw [hN]; exact Nat.le_of_ble_eq_true hn.1) (by rw [hN]; exact Nat.le_of_ble_eq_true hn.2) fun F hF => ?_
  intro μ κ a w R
  refine iwp_V (E := ⟨P, T, G, H, D, F⟩) ⟨hT, hm, hG.toF F, hH⟩ hs (hr ▸ h F (hF.trans hN) ?_) μ κ a w R
  intro i k es hi
  have hq := R.tmps i
  simp only [hi, RepV] at hq
  obtain ⟨ad, n, cp, _, h1, h2, h3, _⟩ := hq
  omega

theorem hcall_V {T : Nat → TD} {G : List (Nat × PSpec)} {H : List (Nat × HSpec)} {P : Program} (D : List (Nat × List (Nat × Nat))) (hT : TOK P T) (hm : P.follows .mixedOrders = true) (hG : GOK P G) (hH : HOK P H) {f : FuncId} {fn : Func} {args : List IV} {hp hp' : List (Nat × Option IBlk)} {v : IV} {n : Nat} {res : Array ResultVar}
    (hf : P.funcs[f]? = some fn) (hb : fn.body = some c) (hN : fn.ntmps = n) (hr : fn.results = res) (hn : (Nat.ble args.length n && Nat.ble n 1000) = true) (hs : statC D c = true)
    (h : ∀ F : Fr, F.N = n → (∀ i k es, lkT (enumT 0 args) i = .sl k es → es.length ≤ maxLen) → V ⟨P, T, G, H, D, F⟩ c ⟨enumT 0 args, hp⟩ [] (FinH T res v hp')) : HCall P f args hp v hp' := by
  rw [Bool.and_eq_true] at hn
  refine hcall_of hT hf hb (by rw [hN]; exact Nat.le_of_ble_eq_true hn.1) (by rw [hN]; exact Nat.le_of_ble_eq_true hn.2) fun F hF => ?_
  intro μ κ a w R
  refine iwp_V (E := ⟨P, T, G, H, D, F⟩) ⟨hT, hm, hG.toF F, hH⟩ hs (hr ▸ h F (hF.trans hN) ?_) μ κ a w R
  intro i k es hi
  have hq := R.tmps i
  simp only [hi, RepV] at hq
  obtain ⟨ad, n, cp, _, h1, h2, h3, _⟩ := hq
  omega

/-- A function's contract, in worlds of a kind. -/
theorem icall_VW {I : World → Prop} (hI : StabI I) {T : Nat → TD} {G : List (Nat × PSpec)} {H : List (Nat × HSpec)} {P : Program} (D : List (Nat × List (Nat × Nat))) (hT : TOK P T) (hm : P.follows .mixedOrders = true) (hG : GOKW I P G) (hH : HOK P H) {f : FuncId} {fn : Func} {args : List IV} {v : IV} {n : Nat} {res : Array ResultVar}
    (hf : P.funcs[f]? = some fn) (hb : fn.body = some c) (hN : fn.ntmps = n) (hr : fn.results = res) (hn : (Nat.ble args.length n && Nat.ble n 1000) = true) (hs : statC D c = true)
    (h : ∀ F : Fr, F.N = n → (∀ i k es, lkT (enumT 0 args) i = .sl k es → es.length ≤ maxLen) → GOKF P F G → V ⟨P, T, G, H, D, F⟩ c ⟨enumT 0 args, []⟩ [] (Fin res v)) : ICallW I P f args v := by
  rw [Bool.and_eq_true] at hn
  intro A w as hw hA hL
  refine icall_at w hf hb (by rw [hN]; exact Nat.le_of_ble_eq_true hn.1) (by rw [hN]; exact Nat.le_of_ble_eq_true hn.2) (fun F hF hw0 hB0 => ?_) A as hA hL
  have hGF : GOKF P F G := hG.toF hI (by rw [hw0]; exact hw) hB0
  intro μ κ a w R
  refine iwp_V (E := ⟨P, T, G, H, D, F⟩) ⟨hT, hm, hGF, hH⟩ hs (hr ▸ h F (hF.trans hN) ?_ hGF) μ κ a w R
  intro i k es hi
  have hq := R.tmps i
  simp only [hi, RepV] at hq
  obtain ⟨ad, n, cp, _, h1, h2, h3, _⟩ := hq
  omega

theorem hcall_VW {I : World → Prop} (hI : StabI I) {T : Nat → TD} {G : List (Nat × PSpec)} {H : List (Nat × HSpec)} {P : Program} (D : List (Nat × List (Nat × Nat))) (hT : TOK P T) (hm : P.follows .mixedOrders = true) (hG : GOKW I P G) (hH : HOK P H) {f : FuncId} {fn : Func} {args : List IV} {hp hp' : List (Nat × Option IBlk)} {v : IV} {n : Nat} {res : Array ResultVar}
    (hf : P.funcs[f]? = some fn) (hb : fn.body = some c) (hN : fn.ntmps = n) (hr : fn.results = res) (hn : (Nat.ble args.length n && Nat.ble n 1000) = true) (hs : statC D c = true)
    (h : ∀ F : Fr, F.N = n → (∀ i k es, lkT (enumT 0 args) i = .sl k es → es.length ≤ maxLen) → GOKF P F G → V ⟨P, T, G, H, D, F⟩ c ⟨enumT 0 args, hp⟩ [] (FinH T res v hp')) : HCallW I P f args hp v hp' := by
  rw [Bool.and_eq_true] at hn
  intro F0 μ0 κ0 as hw hB RH hL
  refine hcall_at hT F0 hf hb (by rw [hN]; exact Nat.le_of_ble_eq_true hn.1) (by rw [hN]; exact Nat.le_of_ble_eq_true hn.2) (fun F hF hw0 hB0 => ?_) μ0 κ0 as RH hL
  have hGF : GOKF P F G := hG.toF hI (by rw [hw0]; exact hw) (hB0.trans hB)
  intro μ κ a w R
  refine iwp_V (E := ⟨P, T, G, H, D, F⟩) ⟨hT, hm, hGF, hH⟩ hs (hr ▸ h F (hF.trans hN) ?_ hGF) μ κ a w R
  intro i k es hi
  have hq := R.tmps i
  simp only [hi, RepV] at hq
  obtain ⟨ad, n, cp, _, h1, h2, h3, _⟩ := hq
  omega

end
end Go.Ideal

/- Small helpers of the walks: numbers, rows. -/
set_option linter.unusedVariables false
set_option linter.unusedSimpArgs false
namespace Go.Ideal
open Go

theorem maxLen_eq : maxLen = 9223372036854775807 := by decide
theorem wr {x : Int} (h1 : -9223372036854775808 ≤ x) (h2 : x ≤ 9223372036854775807) : IntKind.i64.wrap x = x := IntWalk.i64_in x ⟨h1, h2⟩
theorem wr_succ {i n : Nat} (h : i < n) (hn : n ≤ maxLen) : IntKind.i64.wrap ((i : Int) + 1) = ((i + 1 : Nat) : Int) := by
  rw [maxLen_eq] at hn
  rw [wr (by omega) (by omega)]
  omega

/-- A row of elements of one kind. -/
theorem getD_map {α : Type} {f : α → IV} {l : List α} {i : Nat} {d : α} (h : i < l.length) : (l.map f).getD i .junk = f (l.getD i d) := by
  simp [h]
theorem getD_map' {α : Type} {f : α → IV} {l : List α} {i : Int} {d : α} (h0 : 0 ≤ i) (h : i < l.length) : (l.map f).getD i.toNat .junk = f (l.getD i.toNat d) := getD_map (by omega)

theorem eq_of_getD {α : Type} {d : α} {a b : List α} (h : a.length = b.length) (hj : ∀ j, j < a.length → a.getD j d = b.getD j d) : a = b := by
  apply List.ext_getElem h
  intro i h1 h2
  have := hj i h1
  simpa [List.getD, h1, h2] using this

theorem bft : (false == true) = false := rfl
theorem btf : (true == false) = false := rfl
theorem ex_clo (a : FuncId) (b : List IV) : (∃ g caps, IV.clo a b = IV.clo g caps) = True := eq_true ⟨a, b, rfl⟩

end Go.Ideal

/- From a pure contract to a call in a world: slices that came in. -/
set_option linter.unusedVariables false
set_option linter.unusedSimpArgs false
namespace Go.Ideal
open Go

/-- A slice of numbers that came in: nil, or a row of cap cells, the numbers zs. -/
def IsRow (k : IntKind) (w : World) (a : Option Addr) (len cap : Nat) (zs : List Int) : Prop :=
  (a = none ∧ len = 0 ∧ cap = 0 ∧ zs = []) ∨
  ∃ x, a = some x ∧ len ≤ cap ∧ cap ≤ maxLen ∧ zs.length = cap ∧ (∀ i, i < zs.length → w.cell? (x.add i) = some (.int k (zs.getD i 0))) ∧ ∀ n ∈ zs, (Lit.int k n).wf = true

theorem isRow_rep {k : IntKind} {w : World} {a : Option Addr} {len cap : Nat} {zs : List Int} (h : IsRow k w a len cap zs) : RepV (bare (fun _ => False) w) (.sl 1 ((zs.take len).map (IV.num k))) (.slice a len cap) := by
  simp only [RepV]
  rcases h with ⟨rfl, rfl, rfl, rfl⟩ | ⟨x, rfl, h1, h2, h3, h4, h5⟩
  · exact ⟨none, 0, 0, rfl, rfl, Nat.le_refl _, Nat.zero_le _, fun _ => rfl, fun id => by simp [IV.mentL], fun h => absurd h (Nat.lt_irrefl 0)⟩
  · have hl : ((zs.take len).map (IV.num k)).length = len := by simp; omega
    refine ⟨some x, len, cap, rfl, hl.symm, h1, h2, (by intro h; simp at h), noIdL_of (fun y hy => ?_), fun h0 => ?_⟩
    · obtain ⟨n, _, rfl⟩ := List.mem_map.1 hy
      exact fun id => rfl
    · obtain ⟨b, off, spot⟩ := x
      have hc := h4 0 (by omega)
      have hspot : spot = none := by simpa [Addr.add] using World.cell?_spot hc
      subst hspot
      have hcb : w.cell? ⟨b, off, none⟩ = some (.int k (zs.getD 0 0)) := by simpa [Addr.add] using hc
      refine ⟨b, off, rfl, fun h => h, lt_of_cell (w := w) (o := off) hcb, RepR_of fun i hi => ?_⟩
      have hi' : i < len := by rw [hl] at hi; exact hi
      refine ⟨.int k (zs.getD i 0), ?_, ⟨rfl, by intro u hu; simp [Value.cells] at hu; subst hu; rfl, rfl, by decide⟩, fun j hj => ?_⟩
      · have : (zs.take len).length = len := by simp; omega
        have e : ((zs.take len).map (IV.num k)).getD i .junk = .num k (zs.getD i 0) := by
          simp [List.getD, List.getElem?_take, hi', show i < zs.length by omega]
        rw [e]; rfl
      · have : j = 0 := by omega
        subst this
        have hci := h4 i (by omega)
        rw [Addr.add_lit] at hci
        show w.cell? _ = _
        rw [Nat.mul_one, Nat.add_zero, hci]
        rfl

theorem row_bytes {w : World} {a : Option Addr} {len cap : Nat} {zs : List Int} (h : IsRow .u8 w a len cap zs) : ∀ x ∈ zs.take len, 0 ≤ x ∧ x < 256 := by
  intro x hx
  have hx := List.mem_of_mem_take hx
  rcases h with ⟨_, _, _, rfl⟩ | ⟨y, _, _, _, _, _, h5⟩
  · simp at hx
  · have := h5 x hx
    simp [Lit.wf, IntKind.min, IntKind.max, IntKind.signed, IntKind.bits] at this
    omega

theorem calls_of_icall {P : Program} {f : FuncId} {args : List IV} {vs : List Value} {w : World} (h : ICall P f args (.bool true)) (hL : RepL (bare (fun _ => False) w) args vs) :
    Calls P f ⟨vs⟩ w fun e w' => e = .returned (.bool true) ∧ RowKit.Below w.heap.size w w' := by
  refine (h (fun _ => False) w vs (fun _ h => h.elim) hL).mono ?_
  rintro e w' ⟨x, rfl, hc, hv⟩
  simp only [RepV] at hv
  subst hv
  exact ⟨rfl, hc.os, hc.tape, hc.output, hc.size, fun k hk => hc.block k hk (fun h => h)⟩

end Go.Ideal

/- Slices of numbers and of structs of numbers that came in, as values. -/
set_option linter.unusedVariables false
set_option linter.unusedSimpArgs false
namespace Go.Ideal
open Go Go.RowKit

/-- A type that lies in k cells, all of them plain ints. -/
inductive Flat (P : Program) : TypeId → Nat → Prop
  | int {t : TypeId} (h : P.underlying t = some (.int .i64)) : Flat P t 1
  | two {t : TypeId} {f0 f1 : Field} {k0 k1 : Nat} (h : P.underlying t = some (.struct #[f0, f1])) (hc : P.cellsOf t = k0 + k1) (o0 : f0.offset = 0) (o1 : f1.offset = k0) (c0 : P.cellsOf f0.type = k0) (c1 : P.cellsOf f1.type = k1)
      (a0 : Flat P f0.type k0) (a1 : Flat P f1.type k1) : Flat P t (k0 + k1)
  | three {t : TypeId} {f0 f1 f2 : Field} {k0 k1 k2 : Nat} (h : P.underlying t = some (.struct #[f0, f1, f2])) (hc : P.cellsOf t = k0 + k1 + k2) (o0 : f0.offset = 0) (o1 : f1.offset = k0) (o2 : f2.offset = k0 + k1) (c0 : P.cellsOf f0.type = k0) (c1 : P.cellsOf f1.type = k1) (c2 : P.cellsOf f2.type = k2)
      (a0 : Flat P f0.type k0) (a1 : Flat P f1.type k1) (a2 : Flat P f2.type k2) : Flat P t (k0 + k1 + k2)

def inI (n : Int) : Prop := -9223372036854775808 ≤ n ∧ n ≤ 9223372036854775807
theorem inI_of {n : Int} (h : (Lit.int .i64 n).wf = true) : inI n := by
  simp [Lit.wf, IntKind.min, IntKind.max, IntKind.signed, IntKind.bits] at h
  unfold inI
  omega

section
variable {H : Type} {enc : TypeId × Value → H} {P : Program} {w : World} {base : Nat} {spare : Nat → Bool} {held : Bool}

theorem flat_ints {t : TypeId} {k : Nat} (F : Flat P t k) : ∀ {fuel : Nat} {cs : List Value} {x : DataW H × List MemPlace}, DataW.trod enc P w base spare held fuel t cs = some x →
    ∃ zs : List Int, cs = zs.map (Value.int .i64) ∧ zs.length = k ∧ ∀ n ∈ zs, inI n := by
  induction F with
  | int h =>
    intro fuel cs x hx
    obtain ⟨n, rfl, _, hw⟩ := DataW.trod_int h hx
    exact ⟨[n], rfl, rfl, by intro m hm; simp at hm; subst hm; exact inI_of hw⟩
  | @two t f0 f1 k0 k1 h hc o0 o1 c0 c1 a0 a1 i0 i1 =>
    intro fuel cs x hx
    obtain ⟨xs, n, _, _, hl, hn, hf⟩ := DataW.trod_struct h hx
    have hx0 : xs[0]? = some (xs[0]'(by rw [hn]; simp)) := List.getElem?_eq_getElem _
    have hx1 : xs[1]? = some (xs[1]'(by rw [hn]; simp)) := List.getElem?_eq_getElem _
    obtain ⟨z0, e0, l0, b0⟩ := i0 ((hf 0 f0 rfl).trans hx0)
    obtain ⟨z1, e1, l1, b1⟩ := i1 ((hf 1 f1 rfl).trans hx1)
    rw [o0, c0, List.drop_zero] at e0
    rw [o1, c1, List.take_of_length_le (by rw [List.length_drop]; omega)] at e1
    refine ⟨z0 ++ z1, ?_, by rw [List.length_append]; omega, ?_⟩
    · rw [List.map_append, ← e0, ← e1, List.take_append_drop]
    · intro m hm
      rcases List.mem_append.1 hm with h | h
      · exact b0 m h
      · exact b1 m h
  | @three t f0 f1 f2 k0 k1 k2 h hc o0 o1 o2 c0 c1 c2 a0 a1 a2 i0 i1 i2 =>
    intro fuel cs x hx
    obtain ⟨xs, n, _, _, hl, hn, hf⟩ := DataW.trod_struct h hx
    have hx0 : xs[0]? = some (xs[0]'(by rw [hn]; simp)) := List.getElem?_eq_getElem _
    have hx1 : xs[1]? = some (xs[1]'(by rw [hn]; simp)) := List.getElem?_eq_getElem _
    have hx2 : xs[2]? = some (xs[2]'(by rw [hn]; simp)) := List.getElem?_eq_getElem _
    obtain ⟨z0, e0, l0, b0⟩ := i0 ((hf 0 f0 rfl).trans hx0)
    obtain ⟨z1, e1, l1, b1⟩ := i1 ((hf 1 f1 rfl).trans hx1)
    obtain ⟨z2, e2, l2, b2⟩ := i2 ((hf 2 f2 rfl).trans hx2)
    rw [o0, c0, List.drop_zero] at e0
    rw [o1, c1] at e1
    rw [o2, c2, List.take_of_length_le (by rw [List.length_drop]; omega)] at e2
    refine ⟨z0 ++ (z1 ++ z2), ?_, by simp only [List.length_append]; omega, ?_⟩
    · rw [List.map_append, List.map_append, ← e0, ← e1, ← e2, ← List.drop_drop, List.take_append_drop, List.take_append_drop]
    · intro m hm
      simp only [List.mem_append] at hm
      rcases hm with h | h | h
      · exact b0 m h
      · exact b1 m h
      · exact b2 m h

/-- A value of k ints. -/
def ivOf (k : Nat) (zs : List Int) : IV := if 2 ≤ k then .agg (zs.map (IV.num .i64)) else .num .i64 (zs.getD 0 0)
def valOf (k : Nat) (zs : List Int) : Value := if 2 ≤ k then .agg ⟨zs.map (Value.int .i64)⟩ else .int .i64 (zs.getD 0 0)
theorem repL_ints {c : Ctx} : ∀ zs : List Int, RepL c (zs.map (IV.num .i64)) (zs.map (Value.int .i64))
  | [] => rfl
  | z :: zs => ⟨_, _, rfl, rfl, repL_ints zs⟩
theorem ivOf_rep {c : Ctx} {k : Nat} {zs : List Int} : RepV c (ivOf k zs) (valOf k zs) := by
  unfold ivOf valOf
  split
  · simp only [RepV]; exact ⟨_, rfl, repL_ints zs⟩
  · rfl
theorem valOf_ok {k : Nat} {zs : List Int} (hk : 1 ≤ k) (hl : zs.length = k) : EltOk k (valOf k zs) ∧ (valOf k zs).cells.toList = zs.map (Value.int .i64) := by
  unfold valOf
  split
  · rename_i h
    refine ⟨⟨by simp [Value.cells, hl], ?_, by simp [isAggV, h], hk⟩, by simp [Value.cells]⟩
    intro u hu
    simp only [Value.cells] at hu
    obtain ⟨n, _, rfl⟩ := List.mem_map.1 hu
    rfl
  · rename_i h
    have h1 : k = 1 := by omega
    subst h1
    match zs, hl with
    | [z], _ => exact ⟨⟨rfl, by intro u hu; simp [Value.cells] at hu; subst hu; rfl, rfl, Nat.le_refl _⟩, rfl⟩
theorem ivOf_noId (k : Nat) (zs : List Int) : noId (ivOf k zs) := by
  intro id
  unfold ivOf
  split
  · simp only [IV.ment]
    induction zs with
    | nil => rfl
    | cons z zs ih => simpa [IV.mentL, IV.ment] using ih
  · rfl

/-- A slice that came in, of elements of k ints. -/
theorem slice_rep {t e : TypeId} {k : Nat} {fuel : Nat} {a : Option Addr} {len cap : Nat} {x : DataW H × List MemPlace} (ht : P.underlying t = some (.slice e)) (F : Flat P e k) (hc : P.cellsOf e = k) (hk : 1 ≤ k)
    (h : DataW.trod enc P w base spare held fuel t [.slice a len cap] = some x) :
    ∃ es : List (List Int), (∀ z ∈ es, z.length = k ∧ ∀ n ∈ z, inI n) ∧ RepV (bare (fun _ => False) w) (.sl k (es.map (ivOf k))) (.slice a len cap) := by
  rcases Deep.open_slice ht h with ⟨h0, _⟩ | ⟨a', len', cap', m, n, D, Pl, h0, hb, hl, hm, hmm, _, hx⟩
  · simp only [List.cons.injEq, Value.slice.injEq, and_true] at h0
    obtain ⟨rfl, rfl, rfl⟩ := h0
    refine ⟨[], by simp, ?_⟩
    simp only [RepV]
    exact ⟨none, 0, 0, rfl, rfl, Nat.le_refl _, Nat.zero_le _, fun _ => rfl, fun id => by simp [IV.mentL], fun h => absurd h (Nat.lt_irrefl 0)⟩
  · simp only [List.cons.injEq, Value.slice.injEq, and_true] at h0
    obtain ⟨rfl, rfl, rfl⟩ := h0
    have hle : len ≤ m := by rw [hmm]; split <;> omega
    have key : ∀ i, i < len → ∃ z : List Int, z.length = k ∧ (∀ n ∈ z, inI n) ∧ ∀ j, j < k → w.cell? ((a'.add (i * k)).add j) = (z.map (Value.int .i64))[j]? := by
      intro i hi
      obtain ⟨cs', h1, h2⟩ := hx i (by omega)
      rw [hc] at h1
      obtain ⟨_, hlen, hcell⟩ := World.cells?_some h1
      obtain ⟨zs, rfl, hz, hw⟩ := flat_ints F h2
      exact ⟨zs, hz, hw, hcell⟩
    obtain ⟨Z, hZ⟩ : ∃ Z : Nat → List Int, ∀ i, i < len → (Z i).length = k ∧ (∀ n ∈ Z i, inI n) ∧ ∀ j, j < k → w.cell? ((a'.add (i * k)).add j) = ((Z i).map (Value.int .i64))[j]? :=
      ⟨fun i => if hi : i < len then (key i hi).choose else [], fun i hi => by simp only [hi, dite_true]; exact (key i hi).choose_spec⟩
    refine ⟨(List.range len).map Z, ?_, ?_⟩
    · intro z hz
      obtain ⟨i, hi, rfl⟩ := List.mem_map.1 hz
      exact ⟨(hZ i (by simpa using hi)).1, (hZ i (by simpa using hi)).2.1⟩
    · simp only [RepV]
      have hlen : (((List.range len).map Z).map (ivOf k)).length = len := by simp
      refine ⟨some a', len, cap, rfl, hlen.symm, hl, hm, (by intro h; simp at h), noIdL_of (fun y hy => ?_), fun h0 => ?_⟩
      · obtain ⟨z, _, rfl⟩ := List.mem_map.1 hy
        exact ivOf_noId k z
      · obtain ⟨b, off, spot⟩ := a'
        obtain ⟨z1, z2, z3⟩ := hZ 0 h0
        have hc0 := z3 0 hk
        obtain ⟨v, hv⟩ : ∃ v, ((Z 0).map (Value.int .i64))[0]? = some v := ⟨_, List.getElem?_eq_getElem (by simp; omega)⟩
        rw [hv] at hc0
        have hspot : spot = none := by simpa [Addr.add] using World.cell?_spot hc0
        subst hspot
        have hcb : w.cell? ⟨b, off, none⟩ = some v := by simpa [Addr.add] using hc0
        refine ⟨b, off, rfl, fun h => h, lt_of_cell (w := w) (o := off) hcb, RepR_of fun i hi => ?_⟩
        have hi' : i < len := by rw [hlen] at hi; exact hi
        obtain ⟨y1, y2, y3⟩ := hZ i hi'
        have e : (((List.range len).map Z).map (ivOf k)).getD i .junk = ivOf k (Z i) := by simp [List.getD, hi']
        obtain ⟨k1, k2⟩ := valOf_ok hk y1
        refine ⟨valOf k (Z i), by rw [e]; exact ivOf_rep, k1, fun j hj => ?_⟩
        have hci := y3 j hj
        rw [Addr.add_lit, Addr.add_lit] at hci
        show w.cell? _ = _
        rw [hci, ← k2]
        simp

end
end Go.Ideal
