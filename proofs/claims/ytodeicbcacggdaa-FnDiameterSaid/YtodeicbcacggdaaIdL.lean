/- Append as an operation; calls of functions that make no use of the frame's own blocks. -/
import Derived.Test.YtodeicbcacggdaaIdK
import Derived.Lib.AppendZeros
set_option linter.unusedVariables false
set_option linter.unusedSimpArgs false
namespace Go.Ideal
open Go

section
variable {P : Program} {T : Nat → TD} {F : Fr} {μ κ : Nat → Nat} {s : ISt} {a : Act} {w : World} {ops : List Oper} {o : Oper}

theorem append_nils (hT : TOK P T) (R : RepS F μ κ s a w) {t ty0 : TypeId} (hon : (T t).on = true) (he : (T t).elem ≠ 0) (hoe : (T (T t).elem).on = true) {d : Nat} {u : Value}
    (hd : d < F.N) (hm1 : mentTm d s.tm = false) (hm2 : mentHp d s.hp = false)
    {x : IV} (hx : RepV (ctx F μ κ s.hp w) x u) (hp : (srcV (lkH s.hp) (T (T t).elem).size x).2) (hb0 : 0 < (T (T t).elem).bytes) (hpos : 0 < (srcV (lkH s.hp) (T (T t).elem).size x).1.length)
    (hby : (srcV (lkH s.hp) (T (T t).elem).size x).1.length * (T (T t).elem).bytes ≤ 140737488355328) :
    ∃ y w', (Builtin.append_ #[t, t] ty0 #[.slice none 0 0, u]).run P w = .ok y w' ∧ ∃ μ' κ', RepS F μ' κ' ⟨(d, .ref d 0 (srcV (lkH s.hp) (T (T t).elem).size x).1.length true) :: s.tm,
      (d, some (.arr (T (T t).elem).size (T t).elem (srcV (lkH s.hp) (T (T t).elem).size x).1)) :: s.hp⟩ (a.put (some d) y) w' := by
  have hu := (hT t hon).slice he
  obtain ⟨i, z, hi, hsz, hbytes, hz, helt, hfree⟩ := (hT _ hoe).info
  have hk1 := (hT _ hoe).pos
  generalize hk : (T (T t).elem).size = k at *
  generalize hbb : (T (T t).elem).bytes = bb at *
  obtain ⟨ao, m, cp, xs, rfl, hm, hX, hno, hsrc⟩ := src_ok R hx hp
  generalize hes' : (srcV (lkH s.hp) k x).1 = es' at *
  have hXl := hX.length
  have hnm : m ≤ m * bb := Nat.le_mul_of_pos_right _ hb0
  rcases hsrc with ⟨rfl, rfl, hm0⟩ | ⟨ad, rfl, hcells⟩
  · omega
  · have hrun := run_append_nil (P := P) w t ty0 (T t).elem i z hu hi hz ad m cp xs (by rw [hsz, hXl, hm]) hcells (by omega) (by rw [← hm] at hby; omega) (by rw [hbytes, hm]; omega)
    refine ⟨_, _, hrun, ?_⟩
    have hge := grownCap_ge w m 0 (T t).elem
    have hlem : grownCap w m 0 (T t).elem ≤ maxLen := grownCap_le_maxLen w m 0 (T t).elem (by rw [← hm] at hby; unfold maxLen; omega)
    have hzs : z.cells.size = k := helt.1
    refine newBlock R hd hm1 hm2 (w1 := w.drew) (Chg.refl _ _).drew rfl (grownCap w m 0 (T t).elem) (.arr k (T t).elem es')
      (fun c hle hμ hκ hw => arr_rep hμ hκ (by rw [hw]; exact heap_alloc_at w.drew _) ?_ hlem hk1 (by omega) hno (hX.mono hle (fun id' h => by rw [hno id'] at h; cases h)) (fun j q hj => ?_))
      (.ref d 0 es'.length true) _ (fun c hle hμ hκ hs => by rw [← hm]; exact ref_rep hμ hκ hge)
    · simp only [Array.size_append, List.size_toArray, size_zeroCells, hzs, hXl, ← hm, ← Nat.add_mul]
      congr 1
      omega
    · have := append_get (l := []) (l'' := (Builtin.zeroCells z.cells (grownCap w m 0 (T t).elem - m)).toList) j q (by simpa using hj)
      simpa using this

theorem effAppend_sound (hT : TOK P T) {t : TypeId} {sx x : Operand} (ho : o.op = .call { callee := .builtin .append, args := #[sx, x], argTypes := #[t, t] })
    (hob : (effAppend T F.N ops o t sx x s).ob) : StepOK P F ops o s (effAppend T F.N ops o t sx x s) := by
  intro μ κ a w R Q next hn
  unfold effAppend at hob hn
  cases hd : o.dst with
  | none => rw [hd] at hob; exact hob.elim
  | some d =>
    simp only [hd] at hob hn
    cases hG : (gval s.tm ops o).1 with
    | false =>
      rw [hG] at hob hn
      simp only [cond_false] at hob hn
      rw [← hd]
      exact skipE_sound (P := P) R hob hG Q next hn
    | true =>
      rw [hG] at hob hn
      simp only [cond_true] at hob hn
      split at hob
      · rename_i id n hs
        cases hb : lkH s.hp id with
        | none => rw [hb] at hob; exact hob.elim
        | some blk =>
          cases blk with
          | box ty cells => rw [hb] at hob; exact hob.elim
          | arr k ty es =>
            rw [hb] at hob
            simp only at hob
            obtain ⟨hg, hdN, hm1, hm2, hgs, hgx, hon, he, hoe, hty, hsz, hle, hsrc, hby, hb0, hne⟩ := hob
            subst hty hsz
            have hrs := gO_rep R hgs
            rw [hs] at hrs
            have hdid : d ≠ id := by
              rintro rfl
              have := gO_ment hm1 sx
              rw [hs] at this
              simp [IV.ment] at this
            obtain ⟨y, w', hrun, μ', κ', R'⟩ := append_run (ty0 := o.type) hT R hon he hoe hdN hm1 hm2 hb hdid hle hrs (gO_rep R hgx) (fun d h => gO_ment h x) hsrc hb0 hby hne
            rw [gval_wanted R hg, hG]
            simp only [if_true]
            refine .inl ?_
            have hexec : (execOp a.eval o).run P w = .ok (.value y) w' := by
              simp only [execOp, ho, resolve, invoke, builtin, Sem.run_bind, Sem.run_pure, Result.andThen_ok, List.map_toArray, List.map_cons, List.map_nil, hrun]
            unfold Oper.wp
            rw [hexec, Oper.upon_value, hd]
            refine hn μ' κ' _ _ ?_
            simp only [hs, hb]
            exact R'
      · rename_i hs
        obtain ⟨hg, hdN, hm1, hm2, hgs, hgx, hon, he, hoe, hsrc, hpos, hby, hb0⟩ := hob
        have hrs := gO_rep R hgs
        rw [hs] at hrs
        simp only [RepV] at hrs
        obtain ⟨y, w', hrun, μ', κ', R'⟩ := append_nils (ty0 := o.type) hT R hon he hoe hdN hm1 hm2 (gO_rep R hgx) hsrc hb0 hpos hby
        rw [gval_wanted R hg, hG]
        simp only [if_true]
        refine .inl ?_
        have hexec : (execOp a.eval o).run P w = .ok (.value y) w' := by
          simp only [execOp, ho, resolve, invoke, builtin, Sem.run_bind, Sem.run_pure, Result.andThen_ok, List.map_toArray, List.map_cons, List.map_nil, hrs, hrun]
        unfold Oper.wp
        rw [hexec, Oper.upon_value, hd]
        refine hn μ' κ' _ _ ?_
        simp only [hs]
        exact R'
      · exact hob.elim

/-- append onto nil, of so many zeros ('append(nil, make(..)...)'). -/
def effZeros (T : Nat → TD) (N : Nat) (ops : List Oper) (o : Oper) (t t' : TypeId) (sx x : Operand) (s : ISt) : Eff :=
  match gO s.tm sx, gO s.tm x with
  | .nils, .num _ n =>
    effNew N ops o s (.arr (T (T t).elem).size (T t).elem (List.replicate n.toNat (zeroElt (T (T t).elem)))) (fun d => .ref d 0 n.toNat true)
      ((T t).on = true ∧ (T t).elem ≠ 0 ∧ (T (T t).elem).on = true ∧ (T t').on = true ∧ (T t').ik.isSome = true ∧ gB s.tm sx = true ∧ gB s.tm x = true ∧ 0 < n ∧ n * (T (T t).elem).bytes ≤ 140737488355328 ∧ n ≤ 140737488355328 ∧ noId' (zeroElt (T (T t).elem)) = true)
  | _, _ => { ob := False, tv := [], hv := [] }

theorem zeroCells_get {zc : Array Value} {n q : Nat} (hq : q < n * zc.size) (hz : 0 < zc.size) : (Builtin.zeroCells zc n)[q]? = zc[q % zc.size]? := by
  unfold Builtin.zeroCells
  have hlt : q % zc.size < zc.size := Nat.mod_lt _ hz
  rw [Array.getElem?_map]
  have : (Array.range (n * zc.size))[q]? = some q := by
    rw [Array.getElem?_eq_getElem (by simpa using hq)]
    simp
  rw [this]
  simp [hlt]

theorem effZeros_sound (hT : TOK P T) {t t' : TypeId} {sx x : Operand} (ho : o.op = .call { callee := .builtin .append, args := #[sx, x], argTypes := #[t, t'] })
    (hob : (effZeros T F.N ops o t t' sx x s).ob) : StepOK P F ops o s (effZeros T F.N ops o t t' sx x s) := by
  unfold effZeros at hob ⊢
  split at hob
  · rename_i kn n eS eX
    refine effNew_sound hob ?_
    rintro d hd hG ⟨hon, he, hoe, hon', hik, hbs, hbx, h0, hby, hle, hno⟩ μ κ a w R hm1 hm2
    have hu := (hT t hon).slice he
    obtain ⟨kt, hkt⟩ := Option.isSome_iff_exists.1 hik
    have hut := (hT t' hon').int kt hkt
    obtain ⟨i, z, hi, hsz, hbytes, hz, helt, hfree⟩ := (hT _ hoe).info
    have hk1 : 1 ≤ (T (T t).elem).size := (hT _ hoe).pos
    have hs := gO_rep R hbs
    have hx := gO_rep R hbx
    rw [eS] at hs
    rw [eX] at hx
    simp only [RepV] at hs hx
    obtain ⟨m, rfl⟩ : ∃ m : Nat, n = (m : Int) := ⟨n.toNat, by omega⟩
    have hby' : m * i.bytes ≤ 281474976710656 := by
      rw [hbytes]
      have : ((m * (T (T t).elem).bytes : Nat) : Int) ≤ 140737488355328 := by rw [Int.natCast_mul]; exact hby
      omega
    have hrun := Lib.run_append_nil_zeros (P := P) w t t' o.type (T t).elem i z kn kt hu hut hi hz m (by omega) (by rw [hsz]; omega) (by omega) hby'
    have hzs : z.cells.size = (T (T t).elem).size := helt.1
    have hge := grownCap_ge w m 0 (T t).elem
    have hlem : grownCap w m 0 (T t).elem ≤ maxLen := grownCap_le_maxLen w m 0 (T t).elem (by unfold maxLen; omega)
    refine ⟨.slice (some ⟨w.heap.size, 0, none⟩) m (grownCap w m 0 (T t).elem), .cells (Builtin.zeroCells z.cells m ++ Builtin.zeroCells z.cells (grownCap w m 0 (T t).elem - m)) (T t).elem, w.drew, grownCap w m 0 (T t).elem, ?_, (Chg.refl _ _).drew, rfl, ?_, ?_⟩
    · simp only [execOp, ho, resolve, invoke, builtin, Sem.run_bind, Sem.run_pure, Result.andThen_ok, List.map_toArray, List.map_cons, List.map_nil, hs, hx, hrun]
    · intro c' hle' hμ hκ hw
      have hheap : c'.w.heap[c'.μ d]? = some (.cells (Builtin.zeroCells z.cells m ++ Builtin.zeroCells z.cells (grownCap w m 0 (T t).elem - m)) (T t).elem (0, 0)) := by rw [hw, hμ]; exact heap_alloc_at w.drew _
      refine ⟨_, hheap, ?_, by rw [hκ]; exact hlem, hk1, by rw [hκ]; simp; omega, ?_, ?_⟩
      · rw [hκ, Array.size_append, size_zeroCells, size_zeroCells, hzs, ← Nat.add_mul]
        congr 1
        omega
      · exact noIdL_of fun x hx => by rw [List.eq_of_mem_replicate hx]; exact noId'_ok hno
      · have hzr : RepV c' (zeroElt (T (T t).elem)) z := zeroElt_rep helt hfree
        have := RepR_replicate (b := c'.μ d) hzr helt m 0 (fun q hq => by
          rw [Nat.zero_add] at hq
          rw [cell_of_row _ _ _ _ _ _ hheap, ← hzs, Array.getElem?_append_left (by rw [size_zeroCells, hzs]; exact hq)]
          exact zeroCells_get (by rw [hzs]; exact hq) (by omega))
        simpa using this
    · intro c' hle' hμ hκ hs'
      simp only [RepV]
      refine ⟨_, _, rfl, by simp, fun k' hk' hs'' => ⟨by simp; omega, by rw [hκ]; omega, fun _ => by rw [hκ]; omega, fun _ => by rw [hμ]; simp⟩⟩
  · exact hob.elim

end

/-! ### calls -/

/-- Where no id lives. -/
def bare (A : Nat → Prop) (w : World) : Ctx := ⟨fun i => i, fun i => i, fun _ => none, A, w⟩

/-- A function that leaves all that was there: called with these, it returns that. -/
def ICall (P : Program) (f : FuncId) (args : List IV) (v : IV) : Prop :=
  ∀ (A : Nat → Prop) (w : World) (as : List Value), (∀ b, A b → b < w.heap.size) → RepL (bare A w) args as →
    Calls P f ⟨as⟩ w fun e w' => ∃ x, e = .returned x ∧ Chg (fun _ => False) w w' ∧ RepV (bare A w') v x

/-- The same, and what it returns lies in memory that was not there before. -/
def ICallF (P : Program) (f : FuncId) (args : List IV) (v : IV) : Prop :=
  ∀ (A : Nat → Prop) (w : World) (as : List Value), (∀ b, A b → b < w.heap.size) → RepL (bare A w) args as →
    Calls P f ⟨as⟩ w fun e w' => ∃ x, e = .returned x ∧ Chg (fun _ => False) w w' ∧ RepV (bare (fun b => b < w.heap.size) w') v x

structure PSpec where
  pre : List IV → Prop
  val : List IV → IV
  own : Bool

def lkG : List (Nat × PSpec) → Nat → PSpec
  | [], _ => ⟨fun _ => False, fun _ => .junk, false⟩
  | (j, s) :: l, f => if j = f then s else lkG l f

def Enters (P : Program) (f : FuncId) : Prop := ∀ args w, (callFunc f args).run P w = .ok (.enter f args) w

theorem icall_of_F {P : Program} {f : FuncId} {args : List IV} {v : IV} (h : ICallF P f args v) (hc : ∀ id, v.ment id = false) : ICall P f args v := by
  intro A w as hA hL
  refine (h A w as hA hL).mono ?_
  rintro e w' ⟨x, h1, h2, h3⟩
  exact ⟨x, h1, h2, RepV.mono (c := bare (fun b => b < w.heap.size) w') (c' := bare A w') (ok := fun _ => False) ⟨fun _ h => h.elim, fun b _ h => hA b h, Nat.le_refl _, fun _ _ _ _ => rfl⟩ _ _ (fun id h => by rw [hc] at h; cases h) h3⟩

def GOK (P : Program) (G : List (Nat × PSpec)) : Prop := ∀ f args, (lkG G f).pre args → (ICall P f args ((lkG G f).val args) ∧ ((lkG G f).own = true → ICallF P f args ((lkG G f).val args))) ∧ Enters P f

mutual
/-- The ids that a value names. -/
def idsV : IV → List Nat
  | .agg l => idsL l
  | .tup l => idsL l
  | .clo _ l => idsL l
  | .opt _ x => idsV x
  | .ptr i _ => [i]
  | .aptr i _ _ => [i]
  | .ref i _ _ _ => [i]
  | _ => []
def idsL : List IV → List Nat
  | [] => []
  | x :: l => idsV x ++ idsL l
end
mutual
theorem ids_ment {id : Nat} : ∀ x : IV, id ∈ idsV x → x.ment id = true
  | .agg l, h => by simp only [IV.ment]; exact idsL_ment l (by simpa [idsV] using h)
  | .tup l, h => by simp only [IV.ment]; exact idsL_ment l (by simpa [idsV] using h)
  | .clo _ l, h => by simp only [IV.ment]; exact idsL_ment l (by simpa [idsV] using h)
  | .opt _ x, h => by simp only [IV.ment]; exact ids_ment x (by simpa [idsV] using h)
  | .ptr i _, h => by simp [idsV] at h; simp [IV.ment, h]
  | .aptr i _ _, h => by simp [idsV] at h; simp [IV.ment, h]
  | .ref i _ _ _, h => by simp [idsV] at h; simp [IV.ment, h]
  | .junk, h | .num _ _, h | .bool _, h | .str _, h | .sl _ _, h | .nils, h | .nilp, h | .nilI, h | .eptr _ _ _, h | .ifc, h | .anyB, h => by simp [idsV] at h
theorem idsL_ment {id : Nat} : ∀ l : List IV, id ∈ idsL l → IV.mentL id l = true
  | [], h => by simp [idsL] at h
  | x :: l, h => by
    simp only [idsL, List.mem_append] at h
    simp only [IV.mentL, Bool.or_eq_true]
    exact h.elim (fun h => .inl (ids_ment x h)) (fun h => .inr (idsL_ment l h))
end
mutual
theorem mem_ids {id : Nat} : ∀ x : IV, x.ment id = true → id ∈ idsV x
  | .junk, h => by simp [IV.ment] at h
  | .num _ _, h => by simp [IV.ment] at h
  | .bool _, h => by simp [IV.ment] at h
  | .str _, h => by simp [IV.ment] at h
  | .agg l, h => by simp only [IV.ment] at h; simp only [idsV]; exact mem_idsL l h
  | .tup l, h => by simp only [IV.ment] at h; simp only [idsV]; exact mem_idsL l h
  | .sl _ _, h => by simp [IV.ment] at h
  | .nils, h => by simp [IV.ment] at h
  | .nilp, h => by simp [IV.ment] at h
  | .nilI, h => by simp [IV.ment] at h
  | .ptr i _, h => by simp [IV.ment] at h; simp [idsV, h]
  | .aptr i _ _, h => by simp [IV.ment] at h; simp [idsV, h]
  | .eptr _ _ _, h => by simp [IV.ment] at h
  | .ref i _ _ _, h => by simp [IV.ment] at h; simp [idsV, h]
  | .clo _ l, h => by simp only [IV.ment] at h; simp only [idsV]; exact mem_idsL l h
  | .opt _ x, h => by simp only [IV.ment] at h; simp only [idsV]; exact mem_ids x h
  | .ifc, h => by simp [IV.ment] at h
  | .anyB, h => by simp [IV.ment] at h
theorem mem_idsL {id : Nat} : ∀ l : List IV, IV.mentL id l = true → id ∈ idsL l
  | [], h => by simp [IV.mentL] at h
  | x :: l, h => by
    simp only [IV.mentL, Bool.or_eq_true] at h
    simp only [idsL, List.mem_append]
    exact h.imp (mem_ids x) (mem_idsL l)
end

/-- A slice of the frame's own, lent as what it holds; a pointer to a variable, lent to be read. -/
def lendP (h : Nat → Option IBlk) : IV → IV
  | .ref id off n full =>
    match h id with
    | some (.arr k _ es) => .sl k ((es.drop off).take n)
    | _ => .ref id off n full
  | .ptr id off =>
    match h id with
    | some (.box _ [c]) => bif noId' c then .eptr 1 c off else .ptr id off
    | some (.box _ (c :: d :: r)) => bif (c :: d :: r).all noId' then .eptr (r.length + 2) (.agg (c :: d :: r)) off else .ptr id off
    | _ => .ptr id off
  | x => x
def lendV (h : Nat → Option IBlk) : IV → IV
  | .clo g caps => .clo g (caps.map (lendP h))
  | x => lendP h x
def lentP (h : Nat → Option IBlk) : IV → Prop
  | .ref id off n _ =>
    match h id with
    | some (.arr _ _ es) => off + n ≤ es.length
    | _ => False
  | _ => True
def lentPs (h : Nat → Option IBlk) : List IV → Prop
  | [] => True
  | x :: l => lentP h x ∧ lentPs h l
def lent (h : Nat → Option IBlk) : IV → Prop
  | .clo _ caps => lentPs h caps
  | x => lentP h x
def isRef (x : IV) : Bool := !(idsV x).isEmpty

mutual
/-- Is a value free of memory? -/
def flat : IV → Bool
  | .num _ _ | .bool _ | .str _ | .nils | .nilp | .nilI => true
  | .agg l => flatL l
  | .tup l => flatL l
  | _ => false
def flatL : List IV → Bool
  | [] => true
  | x :: l => flat x && flatL l
end
mutual
/-- A value that names no id. -/
def clean : IV → Bool
  | .num _ _ | .bool _ | .str _ | .nils | .nilp | .nilI | .sl _ _ | .ifc | .anyB | .junk | .eptr _ _ _ => true
  | .agg l => cleanL l
  | .tup l => cleanL l
  | .opt _ v => clean v
  | .clo _ l => cleanL l
  | _ => false
def cleanL : List IV → Bool
  | [] => true
  | x :: l => clean x && cleanL l
end

def callArgs (tm : List (Nat × IV)) (fx : Operand) (args : List Operand) : List IV :=
  match gO tm fx with
  | .clo _ caps => args.map (gO tm) ++ caps
  | _ => []
def callFn (tm : List (Nat × IV)) (fx : Operand) : Nat :=
  match gO tm fx with
  | .clo g _ => g
  | _ => 0

def allLent (h : Nat → Option IBlk) : List IV → Prop
  | [] => True
  | x :: l => lent h x ∧ allLent h l

/-- Have these ids a block? -/
def hasAll (h : Nat → Option IBlk) : List Nat → Prop
  | [] => True
  | i :: l => (h i).isSome = true ∧ hasAll h l
theorem hasAll_mem {h : Nat → Option IBlk} {i : Nat} : ∀ {l : List Nat}, hasAll h l → i ∈ l → (h i).isSome = true
  | [], _, hi => by simp at hi
  | j :: l, hh, hi => by
    rcases List.mem_cons.1 hi with rfl | hi
    · exact hh.1
    · exact hasAll_mem hh.2 hi
theorem hasAll_congr {h h' : Nat → Option IBlk} : ∀ {l : List Nat}, (∀ i ∈ l, h' i = h i) → hasAll h' l = hasAll h l
  | [], _ => rfl
  | j :: l, hh => by
    simp only [hasAll]
    rw [hh j (by simp), hasAll_congr (fun i hi => hh i (by simp [hi]))]
/-- The blocks that are given up. -/
def giveUp : List Nat → List (Nat × Option IBlk)
  | [] => []
  | i :: l => (i, none) :: giveUp l
theorem giveUp_lk {h : List (Nat × Option IBlk)} {i : Nat} : ∀ {l : List Nat}, lkH (giveUp l ++ h) i = if i ∈ l then none else lkH h i
  | [] => by simp [giveUp]
  | j :: l => by
    simp only [giveUp, List.cons_append, lkH]
    by_cases e : j = i
    · subst e; simp
    · rw [if_neg e, giveUp_lk]
      have : (i ∈ j :: l) ↔ i ∈ l := by simp [Ne.symm e]
      simp only [this]

def effCall (G : List (Nat × PSpec)) (N : Nat) (ops : List Oper) (o : Oper) (fx : Operand) (args : List Operand) (s : ISt) : Eff :=
  let as := callArgs s.tm fx args
  let v := (lkG G (callFn s.tm fx)).val (as.map (lendV (lkH s.hp)))
  { ob := (gval s.tm ops o).2 ∧ dstOK N o ∧ ((gval s.tm ops o).1 = true → allB s.tm (fx :: args) ∧ (∃ g caps, gO s.tm fx = .clo g caps) ∧ allLent (lkH s.hp) as ∧
      (lkG G (callFn s.tm fx)).pre (as.map (lendV (lkH s.hp))) ∧ clean v = true ∧ ((flat v || (lkG G (callFn s.tm fx)).own) = true ∨ hasAll (lkH s.hp) (idsL as))),
    tv := setD o (wrapG o (gval s.tm ops o).1 v), hv := bif flat v || (lkG G (callFn s.tm fx)).own || !(gval s.tm ops o).1 then [] else giveUp (idsL as) }

section
variable {P : Program} {T : Nat → TD} {F : Fr} {μ κ : Nat → Nat} {s : ISt} {a : Act} {w : World} {ops : List Oper} {o : Oper}

mutual
theorem clean_ment {id : Nat} : ∀ x : IV, clean x = true → x.ment id = false
  | .num _ _, _ => by simp [IV.ment]
  | .bool _, _ => by simp [IV.ment]
  | .str _, _ => by simp [IV.ment]
  | .nils, _ => by simp [IV.ment]
  | .nilp, _ => by simp [IV.ment]
  | .nilI, _ => by simp [IV.ment]
  | .sl _ _, _ => by simp [IV.ment]
  | .ifc, _ => by simp [IV.ment]
  | .anyB, _ => by simp [IV.ment]
  | .junk, _ => by simp [IV.ment]
  | .agg l, h => by simp only [clean] at h; simp [IV.ment, cleanL_ment l h]
  | .tup l, h => by simp only [clean] at h; simp [IV.ment, cleanL_ment l h]
  | .opt _ v, h => by simp only [clean] at h; simp [IV.ment, clean_ment v h]
  | .clo _ l, h => by simp only [clean] at h; simp [IV.ment, cleanL_ment l h]
  | .ptr _ _, h => by simp [clean] at h
  | .aptr _ _ _, h => by simp [clean] at h
  | .eptr _ _ _, _ => by simp [IV.ment]
  | .ref _ _ _ _, h => by simp [clean] at h
theorem cleanL_ment {id : Nat} : ∀ l : List IV, cleanL l = true → IV.mentL id l = false
  | [], _ => by simp [IV.mentL]
  | x :: l, h => by
    simp only [cleanL, Bool.and_eq_true] at h
    simp [IV.mentL, clean_ment x h.1, cleanL_ment l h.2]
end

mutual
/-- What is free of memory holds in every context. -/
theorem flat_any {c c' : Ctx} : ∀ (x : IV) (v : Value), flat x = true → RepV c x v → RepV c' x v
  | .num _ _, v, _, h => by simpa [RepV] using h
  | .bool _, v, _, h => by simpa [RepV] using h
  | .str _, v, _, h => by simpa [RepV] using h
  | .nils, v, _, h => by simpa [RepV] using h
  | .nilp, v, _, h => by simpa [RepV] using h
  | .nilI, v, _, h => by simpa [RepV] using h
  | .agg l, v, hf, h => by
    simp only [flat] at hf
    simp only [RepV] at h ⊢
    obtain ⟨vs, hv, hl⟩ := h
    exact ⟨vs, hv, flatL_any l vs hf hl⟩
  | .tup l, v, hf, h => by
    simp only [flat] at hf
    simp only [RepV] at h ⊢
    obtain ⟨vs, hv, hl⟩ := h
    exact ⟨vs, hv, flatL_any l vs hf hl⟩
  | .sl _ _, _, h, _ => by simp [flat] at h
  | .ifc, _, h, _ => by simp [flat] at h
  | .anyB, _, h, _ => by simp [flat] at h
  | .junk, _, h, _ => by simp [flat] at h
  | .opt _ _, _, h, _ => by simp [flat] at h
  | .clo _ _, _, h, _ => by simp [flat] at h
  | .ptr _ _, _, h, _ => by simp [flat] at h
  | .aptr _ _ _, _, h, _ => by simp [flat] at h
  | .eptr _ _ _, _, h, _ => by simp [flat] at h
  | .ref _ _ _ _, _, h, _ => by simp [flat] at h
theorem flatL_any {c c' : Ctx} : ∀ (l : List IV) (vs : List Value), flatL l = true → RepL c l vs → RepL c' l vs
  | [], vs, _, h => by simpa [RepL] using h
  | x :: l, vs, hf, h => by
    simp only [flatL, Bool.and_eq_true] at hf
    simp only [RepL] at h ⊢
    obtain ⟨v, r, hv, hx, hl⟩ := h
    exact ⟨v, r, hv, flat_any x v hf.1 hx, flatL_any l r hf.2 hl⟩
end

/-- The blocks lent to a call. -/
def lentB (μ : Nat → Nat) (as : List IV) : Nat → Prop := fun b => ∃ id, id ∈ idsL as ∧ μ id = b

theorem oneCell_noAgg {v : Value} (h : v.oneCell' = true) : isAggV v = false ∧ v.cells = #[v] := by
  cases v <;> simp_all [Value.oneCell', isAggV, Value.cells]

theorem lendP_rep (R : RepS F μ κ s a w) {x : IV} {v : Value} (hx : RepV (ctx F μ κ s.hp w) x v) (hl : lentP (lkH s.hp) x) (B : Nat → Prop)
    (hB : ∀ id, x.ment id = true → B (μ id)) :
    RepV (bare (fun b => avOf F μ s.hp b ∧ ¬ B b) w) (lendP (lkH s.hp) x) v := by
  have hle : (ctx F μ κ s.hp w).Le (bare (fun b => avOf F μ s.hp b ∧ ¬ B b) w) (fun _ => True) :=
    ⟨fun _ _ => .inl rfl, fun b _ h => h.1, Nat.le_refl _, fun _ _ _ _ => rfl⟩
  cases x with
  | ref id off n full =>
    simp only [lendP, lentP] at hl ⊢
    have hBi := hB id (by simp [IV.ment])
    cases hb : lkH s.hp id with
    | none => rw [hb] at hl; exact hl.elim
    | some blk =>
      cases blk with
      | box ty cells => rw [hb] at hl; exact hl.elim
      | arr k ty es =>
        rw [hb] at hl
        simp only at hl ⊢
        obtain ⟨⟨cur, hheap, h2, h3, h4, h5, h6, h7⟩, hr⟩ := R.own id _ hb
        simp only [RepV] at hx ⊢
        obtain ⟨ao, cp, rfl, han, hx⟩ := hx
        obtain ⟨hn, hcap, _, ha⟩ := hx k h4 (by show (lkH s.hp id).map _ = _; rw [hb]; rfl)
        have h3' : κ id ≤ maxLen := h3
        have hcap' : off + cp ≤ κ id := hcap
        refine ⟨ao, n, cp, rfl, by simp; omega, hn, by omega, han, (h6.drop off).take n, fun h0 => ?_⟩
        refine ⟨μ id, off * k, ha (.inl h0), fun h => h.2 hBi, lt_of_own R hb, ?_⟩
        have hR := (h7.drop off (by omega)).take n
        obtain ⟨xs, hX, hc⟩ := hR.toX
        exact (hX.mono hle (fun _ _ => trivial)).toR (fun j u hu => by have := hc j u hu; rwa [Nat.zero_add] at this)
  | ptr id off =>
    have hBi := hB id (by simp [IV.ment])
    simp only [lendP]
    have hself := RepV.mono hle _ _ (fun _ _ => trivial) hx
    cases hb : lkH s.hp id with
    | none => exact hself
    | some blk =>
      cases blk with
      | arr k ty es => exact hself
      | box ty cells =>
        obtain ⟨⟨cs, hheap, hL, h1⟩, hr⟩ := R.own id _ hb
        have hlt := lt_of_own R hb
        have hx0 := hx
        simp only [RepV] at hx0
        obtain ⟨ad, rfl, hx0⟩ := hx0
        have had := hx0 (by show (lkH s.hp id).map _ = _; rw [hb]; rfl)
        match cells, hL with
        | [], _ => exact hself
        | [c], hL =>
          simp only []
          cases hc : noId' c with
          | false => exact hself
          | true =>
            simp only [RepL] at hL
            obtain ⟨u, r, rfl, hu, rfl⟩ := hL
            obtain ⟨ha, hcl⟩ := oneCell_noAgg (h1 u (by simp))
            simp only [cond_true, RepV]
            refine ⟨μ id, 0, u, by rw [had]; simp; rfl, fun h => h.2 hBi, hlt, noId'_ok hc, RepV.mono hle c u (fun _ _ => trivial) hu, ⟨by rw [hcl]; rfl, by rw [hcl]; simpa using h1 u (by simp), by rw [ha]; rfl, Nat.le_refl _⟩, fun j hj => ?_⟩
            have : j = 0 := by omega
            subst this
            rw [hcl]
            show w.cell? ⟨μ id, 0 + 0, none⟩ = _
            rw [cell_of_row w (μ id) _ _ _ _ hheap]
        | c :: d :: r, hL =>
          simp only []
          cases hc : (c :: d :: r).all noId' with
          | false => exact hself
          | true =>
            have hlen := hL.length
            simp only [cond_true, RepV]
            refine ⟨μ id, 0, .agg ⟨cs⟩, by rw [had]; simp; rfl, fun h => h.2 hBi, hlt, ?_, ⟨cs, rfl, RepL.mono hle _ _ (fun _ _ => trivial) hL⟩, ⟨by simp [Value.cells, hlen], by simpa [Value.cells] using h1, by simp [isAggV], by omega⟩, fun j hj => ?_⟩
            · intro i
              simp only [IV.ment]
              exact noIdL_of (fun y hy => noId'_ok (List.all_eq_true.1 hc y hy)) i
            · show w.cell? ⟨μ id, 0 + j, none⟩ = _
              rw [Nat.zero_add, cell_of_row w (μ id) _ _ _ _ hheap]
              rfl
  | _ => exact RepV.mono hle _ _ (fun _ _ => trivial) hx

theorem lendPs_rep (R : RepS F μ κ s a w) (B : Nat → Prop) : ∀ {l : List IV} {vs : List Value}, RepL (ctx F μ κ s.hp w) l vs → lentPs (lkH s.hp) l →
    (∀ id, IV.mentL id l = true → B (μ id)) → RepL (bare (fun b => avOf F μ s.hp b ∧ ¬ B b) w) (l.map (lendP (lkH s.hp))) vs
  | [], vs, h, _, _ => by simpa [RepL] using h
  | x :: l, vs, h, hl, hB => by
    simp only [RepL, List.map_cons, lentPs] at h hl ⊢
    obtain ⟨v, r, hv, hx, hr⟩ := h
    exact ⟨v, r, hv, lendP_rep R hx hl.1 B (fun id e => hB id (by simp [IV.mentL, e])), lendPs_rep R B hr hl.2 (fun id hm => hB id (by simp [IV.mentL, hm]))⟩

theorem lend_rep (R : RepS F μ κ s a w) {x : IV} {v : Value} (hx : RepV (ctx F μ κ s.hp w) x v) (hl : lent (lkH s.hp) x) (B : Nat → Prop)
    (hB : ∀ id, x.ment id = true → B (μ id)) :
    RepV (bare (fun b => avOf F μ s.hp b ∧ ¬ B b) w) (lendV (lkH s.hp) x) v := by
  cases x with
  | clo g caps =>
    simp only [lent] at hl
    simp only [lendV, RepV] at hx ⊢
    obtain ⟨cs, hv, hc⟩ := hx
    exact ⟨cs, hv, lendPs_rep R B hc hl (fun id hm => hB id (by simpa [IV.ment] using hm))⟩
  | _ => exact lendP_rep R hx hl B hB

theorem lendL_rep (R : RepS F μ κ s a w) (B : Nat → Prop) : ∀ {l : List IV} {vs : List Value}, RepL (ctx F μ κ s.hp w) l vs → allLent (lkH s.hp) l →
    (∀ id, IV.mentL id l = true → B (μ id)) → RepL (bare (fun b => avOf F μ s.hp b ∧ ¬ B b) w) (l.map (lendV (lkH s.hp))) vs
  | [], vs, h, _, _ => by simpa [RepL] using h
  | x :: l, vs, h, hl, hB => by
    simp only [RepL, List.map_cons, allLent] at h hl ⊢
    obtain ⟨v, r, hv, hx, hr⟩ := h
    exact ⟨v, r, hv, lend_rep R hx hl.1 B (fun id e => hB id (by simp [IV.mentL, e])), lendL_rep R B hr hl.2 (fun id hm => hB id (by simp [IV.mentL, hm]))⟩

theorem run_invoke_clo {f : FuncId} (hf : Enters P f) {o : Oper} {ρ : Operand → Value} {fx : Operand} {args : Array Operand} {tys : Array TypeId} {caps : List Value} (ho : o.op = .call { callee := .value fx, args := args, argTypes := tys })
    (hfx : ρ fx = .func (.func f) #[] ⟨caps⟩) (w : World) : (execOp ρ o).run P w = .ok (.enter f ⟨args.toList.map ρ ++ caps⟩) w := by
  have e : args.map ρ ++ (⟨caps⟩ : Array Value) = ⟨args.toList.map ρ ++ caps⟩ := by apply Array.ext'; simp
  simp only [execOp, ho, resolve, hfx, Deferred.ofValue, Sem.run_bind, Sem.run_pure, Result.andThen_ok, invoke, Array.empty_append, e]
  exact hf _ _

theorem effCall_sound {G : List (Nat × PSpec)} (hGOK : GOK P G) {fx : Operand} {args : Array Operand} {tys : Array TypeId} (ho : o.op = .call { callee := .value fx, args := args, argTypes := tys })
    (hob : (effCall G F.N ops o fx args.toList s).ob) : StepOK P F ops o s (effCall G F.N ops o fx args.toList s) := by
  intro μ κ a w R Q next hn
  obtain ⟨hg, hd, hp⟩ := hob
  rw [gval_wanted R hg]
  cases hG : (gval s.tm ops o).1 with
  | true =>
    obtain ⟨hb, ⟨f, caps, hfx⟩, hlent, hpre, hclean, hflat⟩ := hp hG
    simp only [if_true]
    refine .inl ?_
    have hfxr := gO_rep R (allB_mem hb fx (by simp))
    rw [hfx] at hfxr
    simp only [RepV] at hfxr
    obtain ⟨cs, hfv, hcaps⟩ := hfxr
    have hfn : callFn s.tm fx = f := by simp [callFn, hfx]
    have has : callArgs s.tm fx args.toList = args.toList.map (gO s.tm) ++ caps := by simp [callArgs, hfx]
    rw [hfn] at hpre
    obtain ⟨⟨hcall, hcallF⟩, hent⟩ := hGOK f _ hpre
    have hargs : RepL (ctx F μ κ s.hp w) (callArgs s.tm fx args.toList) (args.toList.map a.eval ++ cs) := by
      rw [has]
      exact (RepL_map (fun y hy => gO_rep R (allB_mem hb y (by simp [hy])))).append hcaps
    unfold Oper.wp
    rw [run_invoke_clo hent ho hfv w, Oper.upon_enter]
    let B : Nat → Prop := lentB μ (callArgs s.tm fx args.toList)
    have hL := lendL_rep R B hargs hlent (fun id hm => ⟨id, mem_idsL _ hm, rfl⟩)
    have hlt : ∀ b, (avOf F μ s.hp b ∧ ¬ B b) → b < w.heap.size := by
      rintro b ⟨h | ⟨id, hid, rfl⟩, _⟩
      · exact Nat.lt_of_lt_of_le (F.hA b h) R.chg.size
      · cases hb : lkH s.hp id with
        | none => exact absurd hb hid
        | some blk => exact lt_of_own R hb
    have hlt2 : ∀ b, avOf F μ s.hp b → b < w.heap.size := by
      rintro b (h | ⟨id, hid, rfl⟩)
      · exact Nat.lt_of_lt_of_le (F.hA b h) R.chg.size
      · cases hb : lkH s.hp id with
        | none => exact absurd hb hid
        | some blk => exact lt_of_own R hb
    have hboth : Calls P f ⟨args.toList.map a.eval ++ cs⟩ w fun e w' => ∃ x, e = .returned x ∧ Chg (fun _ => False) w w' ∧
        (((lkG G f).own = false ∧ RepV (bare (fun b => avOf F μ s.hp b ∧ ¬ B b) w') ((lkG G f).val ((callArgs s.tm fx args.toList).map (lendV (lkH s.hp)))) x) ∨
          ((lkG G f).own = true ∧ RepV (bare (fun b => b < w.heap.size) w') ((lkG G f).val ((callArgs s.tm fx args.toList).map (lendV (lkH s.hp)))) x)) := by
      cases ho : (lkG G f).own with
      | true =>
        refine (hcallF ho (fun b => avOf F μ s.hp b ∧ ¬ B b) w _ hlt hL).mono ?_
        rintro e w' ⟨x, h1, h2, h3⟩
        exact ⟨x, h1, h2, .inr ⟨rfl, h3⟩⟩
      | false =>
        refine (hcall (fun b => avOf F μ s.hp b ∧ ¬ B b) w _ hlt hL).mono ?_
        rintro e w' ⟨x, h1, h2, h3⟩
        exact ⟨x, h1, h2, .inl ⟨rfl, h3⟩⟩
    refine hboth.mono ?_
    rintro e w' ⟨x, rfl, hchg, hrep⟩
    simp only
    have hle0 : (ctx F μ κ s.hp w).Le (ctx F μ κ s.hp w') (fun _ => True) :=
      ⟨fun _ _ => .inr ⟨rfl, rfl, rfl⟩, fun b _ h => h, hchg.size, fun b o' hb _ => World.cell?_of_block (hchg.block b hb (fun h => h))⟩
    have R' : RepS F μ κ s a w' := by
      refine R.move (fun _ => True) (R.chg.trans hchg (fun _ h => h) (fun _ _ h => h.elim)) R.inj (fun id blk hb => ?_) hle0 (fun _ _ _ => trivial) (fun _ _ _ => ⟨rfl, rfl⟩)
      obtain ⟨hB, hr⟩ := R.own id blk hb
      have hl := lt_of_own R hb
      exact ⟨RepB.mono hle0 rfl rfl (hchg.block _ hl (fun h => h)) (fun o' => World.cell?_of_block (hchg.block _ hl (fun h => h))) (fun _ _ _ _ _ => trivial) hB, hr⟩
    have hend : ∀ hp' : List (Nat × Option IBlk), RepS F μ κ ⟨s.tm, hp'⟩ a w' → RepV (ctx F μ κ hp' w') ((lkG G (callFn s.tm fx)).val ((callArgs s.tm fx args.toList).map (lendV (lkH s.hp)))) x →
        RepV (ctx F μ κ hp' w') (wrapG o true ((lkG G (callFn s.tm fx)).val ((callArgs s.tm fx args.toList).map (lendV (lkH s.hp))))) x := by
      intro hp' _ hv
      unfold wrapG
      cases o.guard with
      | none => exact hv
      | some p => simp only [RepV]; exact ⟨fun _ => hv, fun h => (by cases h)⟩
    rw [← hfn] at hrep
    cases hfo : (flat ((lkG G (callFn s.tm fx)).val ((callArgs s.tm fx args.toList).map (lendV (lkH s.hp)))) || (lkG G (callFn s.tm fx)).own) with
    | true =>
      have hv : RepV (ctx F μ κ s.hp w') ((lkG G (callFn s.tm fx)).val ((callArgs s.tm fx args.toList).map (lendV (lkH s.hp)))) x := by
        rcases hrep with ⟨hno, hrep⟩ | ⟨hown, hrep⟩
        · rw [hno, Bool.or_false] at hfo
          exact flat_any _ _ hfo hrep
        · refine RepV.mono (c := bare (fun b => b < w.heap.size) w') (c' := ctx F μ κ s.hp w') (ok := fun _ => False) ⟨fun _ h => h.elim, fun b hb h => hlt2 b h, Nat.le_refl _, fun _ _ _ _ => rfl⟩ _ _ (fun id h => ?_) hrep
          rw [clean_ment _ hclean] at h
          cases h
      have e : s.app (effCall G F.N ops o fx args.toList s) = s.app ⟨True, setD o (wrapG o true ((lkG G (callFn s.tm fx)).val ((callArgs s.tm fx args.toList).map (lendV (lkH s.hp))))), []⟩ := by
        unfold effCall ISt.app
        simp only [hG, hfo, Bool.true_or, cond_true]
      refine hn μ κ _ _ ?_
      rw [e]
      exact app_set R' (hend s.hp R' hv) hd True
    | false =>
      rw [hfo] at hflat
      have hall := hflat.resolve_left (by simp)
      simp only [Bool.or_eq_false_iff] at hfo
      let hp' := giveUp (idsL (callArgs s.tm fx args.toList)) ++ s.hp
      have hsub : ∀ id blk, lkH hp' id = some blk → id ∉ idsL (callArgs s.tm fx args.toList) ∧ lkH s.hp id = some blk := by
        intro id blk hb
        simp only [hp', giveUp_lk] at hb
        split at hb
        · cases hb
        · rename_i hni; exact ⟨hni, hb⟩
      have hsub2 : ∀ id, lkH hp' id ≠ none → id ∉ idsL (callArgs s.tm fx args.toList) ∧ lkH s.hp id ≠ none := by
        intro id hb
        cases e : lkH hp' id with
        | none => exact absurd e hb
        | some blk => have := hsub id blk e; exact ⟨this.1, by rw [this.2]; simp⟩
      have hle1 : (ctx F μ κ s.hp w').Le (ctx F μ κ hp' w') (fun _ => True) := by
        refine ⟨fun id _ => ?_, fun b _ h => ?_, Nat.le_refl _, fun _ _ _ _ => rfl⟩
        · by_cases hm : id ∈ idsL (callArgs s.tm fx args.toList)
          · left; simp [ctx, hp', giveUp_lk, hm]
          · right; simp [ctx, hp', giveUp_lk, hm]
        · rcases h with h | ⟨id, h1, h2⟩
          · exact .inl h
          · exact .inr ⟨id, (hsub2 id h1).2, h2⟩
      have R1 : RepS F μ κ ⟨s.tm, hp'⟩ a w' := by
        refine R'.move (fun _ => True) R'.chg (fun i j hi hj e => R'.inj i j (hsub2 i hi).2 (hsub2 j hj).2 e) (fun id blk hb => ?_) hle1 (fun _ _ _ => trivial) (fun _ _ _ => ⟨rfl, rfl⟩)
        obtain ⟨hB, hr⟩ := R'.own id blk (hsub id blk hb).2
        exact ⟨RepB.mono hle1 rfl rfl rfl (fun _ => rfl) (fun _ _ _ _ _ => trivial) hB, hr⟩
      have hv : RepV (ctx F μ κ hp' w') ((lkG G (callFn s.tm fx)).val ((callArgs s.tm fx args.toList).map (lendV (lkH s.hp)))) x := by
        rcases hrep with ⟨hno, hrep⟩ | ⟨hown, hrep⟩
        · refine RepV.mono (c := bare (fun b => avOf F μ s.hp b ∧ ¬ B b) w') (c' := ctx F μ κ hp' w') (ok := fun _ => False) ⟨fun _ h => h.elim, fun b hb h => ⟨hle1.av b hb h, ?_⟩, Nat.le_refl _, fun _ _ _ _ => rfl⟩ _ _ (fun id h => ?_) hrep
          · rintro ⟨id, hm, rfl⟩
            have hs := hasAll_mem hall hm
            cases hbi : lkH s.hp id with
            | none => rw [hbi] at hs; cases hs
            | some blk =>
              rcases h with h | ⟨id2, h1, h2⟩
              · exact (R'.own id blk hbi).2.1 h
              · have h3 := hsub2 id2 h1
                have := R'.inj id2 id h3.2 (by rw [hbi]; simp) h2
                exact h3.1 (this ▸ hm)
          · rw [clean_ment _ hclean] at h
            cases h
        · rw [hown] at hfo
          cases hfo.2
      have e : s.app (effCall G F.N ops o fx args.toList s) = (⟨s.tm, hp'⟩ : ISt).app ⟨True, setD o (wrapG o true ((lkG G (callFn s.tm fx)).val ((callArgs s.tm fx args.toList).map (lendV (lkH s.hp))))), []⟩ := by
        unfold effCall ISt.app
        simp only [hG, hfo.1, hfo.2, Bool.or_false, Bool.not_true, cond_false, hp', List.nil_append]
      refine hn μ κ _ _ ?_
      rw [e]
      exact app_set R1 (hend hp' R1 hv) hd True
  | false =>
    simp only [Bool.false_eq_true, if_false]
    have e : s.app (effCall G F.N ops o fx args.toList s) = s.app ⟨True, setD o (wrapG o false ((lkG G (callFn s.tm fx)).val ((callArgs s.tm fx args.toList).map (lendV (lkH s.hp))))), []⟩ := by
      unfold effCall ISt.app
      simp only [hG, Bool.not_false, Bool.or_true, cond_true]
    refine hn μ κ _ _ ?_
    rw [e]
    refine app_set R ?_ hd True
    unfold wrapG
    cases hgd : o.guard with
    | none => simp [gval, hgd] at hG
    | some p => simp [RepV]

end
end Go.Ideal
