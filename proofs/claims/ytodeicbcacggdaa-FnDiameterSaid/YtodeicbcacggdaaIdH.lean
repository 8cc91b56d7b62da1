/- The operations that make memory or write it. -/
import Derived.Test.YtodeicbcacggdaaIdG
set_option linter.unusedVariables false
set_option linter.unusedSimpArgs false
namespace Go.Ideal
open Go

def skipE (o : Oper) (s : ISt) (ops : List Oper) (N : Nat) : Eff := { ob := (gval s.tm ops o).2 ∧ dstOK N o, tv := setD o (.opt false .junk), hv := [] }

/-- An operation that lays a new block under the name of its slot. -/
def effNew (N : Nat) (ops : List Oper) (o : Oper) (s : ISt) (blk : IBlk) (v : Nat → IV) (ob : Prop) : Eff :=
  match o.dst with
  | some d => bif (gval s.tm ops o).1 then { ob := (gval s.tm ops o).2 ∧ d < N ∧ mentTm d s.tm = false ∧ mentHp d s.hp = false ∧ ob, tv := [(d, v d)], hv := [(d, some blk)] } else skipE o s ops N
  | none => { ob := False, tv := [], hv := [] }

def effAlloc (T : Nat → TD) (N : Nat) (ops : List Oper) (o : Oper) (t : TypeId) (s : ISt) : Eff :=
  effNew N ops o s (.box t (T t).zero) (fun d => .ptr d 0) ((T t).on = true)

def effBox (T : Nat → TD) (N : Nat) (ops : List Oper) (o : Oper) (t : TypeId) (x : Operand) (s : ISt) : Eff :=
  effNew N ops o s (.box t (gO s.tm x).cells) (fun d => .ptr d 0) (gB s.tm x = true ∧ solid (gO s.tm x) = true ∧ (gO s.tm x).cells.all oneI = true)

/-- The parts of a slice literal, in order. -/
def partsL (tm : List (Nat × IV)) : Nat → List (Nat × Operand) → List IV × Prop
  | _, [] => ([], True)
  | i, (j, x) :: r => (gO tm x :: (partsL tm (i + 1) r).1, j = i ∧ gB tm x = true ∧ (partsL tm (i + 1) r).2)

def eltsI (k : Nat) : List IV → Prop
  | [] => True
  | x :: l => eltI k x ∧ noId' x = true ∧ eltsI k l

def effBuildSlice (T : Nat → TD) (N : Nat) (ops : List Oper) (o : Oper) (t : TypeId) (n : Nat) (parts : List (Nat × Operand)) (s : ISt) : Eff :=
  effNew N ops o s (.arr (T (T t).elem).size (T t).elem (partsL s.tm 0 parts).1) (fun d => .ref d 0 n true)
    ((T t).on = true ∧ (T t).elem ≠ 0 ∧ (T (T t).elem).on = true ∧ n = parts.length ∧ n * (T (T t).elem).size ≤ 16777216 ∧ (partsL s.tm 0 parts).2 ∧ eltsI (T (T t).elem).size (partsL s.tm 0 parts).1)

def zeroElt (d : TD) : IV := if 2 ≤ d.size then .agg d.zero else d.zero.headD .junk

def effMake (T : Nat → TD) (N : Nat) (ops : List Oper) (o : Oper) (t : TypeId) (l c : Operand) (s : ISt) : Eff :=
  match gO s.tm l, gO s.tm c with
  | .num _ L, .num _ C =>
    effNew N ops o s (.arr (T (T t).elem).size (T t).elem (List.replicate L.toNat (zeroElt (T (T t).elem)))) (fun d => .ref d 0 L.toNat true)
      ((T t).on = true ∧ (T t).elem ≠ 0 ∧ (T (T t).elem).on = true ∧ gB s.tm l = true ∧ gB s.tm c = true ∧ 0 ≤ L ∧ L ≤ C ∧ C * (T (T t).elem).bytes ≤ 140737488355328 ∧ C ≤ 140737488355328 ∧ noId' (zeroElt (T (T t).elem)) = true)
  | _, _ => { ob := False, tv := [], hv := [] }

section
variable {P : Program} {T : Nat → TD} {F : Fr} {μ κ : Nat → Nat} {s : ISt} {a : Act} {w : World} {ops : List Oper} {o : Oper}

theorem mentTm_lk {d : Nat} : ∀ {tm : List (Nat × IV)}, mentTm d tm = false → ∀ i, (lkT tm i).ment d = false
  | [], _, i => by simp [lkT, IV.ment]
  | (j, v) :: tm, h, i => by
    simp only [mentTm, Bool.or_eq_false_iff] at h
    simp only [lkT]
    split
    · exact h.1
    · exact mentTm_lk h.2 i

theorem mentHp_lk {d : Nat} : ∀ {hp : List (Nat × Option IBlk)}, mentHp d hp = false → ∀ i ty cells, lkH hp i = some (.box ty cells) → IV.mentL d cells = false
  | [], _, i, ty, cells, h => by simp [lkH] at h
  | (j, b) :: hp, h, i, ty, cells, hl => by
    simp only [lkH] at hl
    split at hl
    · subst hl
      simp only [mentHp, Bool.or_eq_false_iff] at h
      exact h.1
    · refine mentHp_lk ?_ i ty cells hl
      cases b with
      | none => simpa [mentHp] using h
      | some blk =>
        cases blk with
        | box ty cells => simp only [mentHp, Bool.or_eq_false_iff] at h; exact h.2
        | arr k ty es => simpa [mentHp] using h

theorem skipE_sound (R : RepS F μ κ s a w) (hob : (skipE o s ops F.N).ob) (hG : (gval s.tm ops o).1 = false) (Q : Exit → Act → World → Prop) (next : Act → World → Prop)
    (hn : ∀ μ' κ' a' w', RepS F μ' κ' (s.app (skipE o s ops F.N)) a' w' → next a' w') :
    if Region.wanted o (yielded ⟨ops⟩ a.tmps) then o.wp P a w next Q ∨ (o.asks P a w ∧ LetsOut Q) else next (a.put o.dst undef) w := by
  rw [gval_wanted R hob.1, hG]
  simp only [Bool.false_eq_true, if_false]
  exact hn μ κ _ _ (app_set R (by simp [RepV]) hob.2 _)

/-- The operand of a slot or a constant names only ids that the slots name. -/
theorem gO_ment {d : Nat} (h : mentTm d s.tm = false) (x : Operand) : (gO s.tm x).ment d = false := by
  unfold gO
  have : (opI s.tm x).ment d = false := by
    cases x with
    | tmp t => exact mentTm_lk h t
    | const v => simp only [opI]; unfold ofC; split <;> simp [IV.ment]
    | func f => simp [opI, IV.ment, IV.mentL]
    | global g => simp [opI, IV.ment]
  cases hx : opI s.tm x with
  | opt b v => rw [hx] at this; simpa [strip, IV.ment] using this
  | _ => rw [hx] at this; simpa [strip] using this

theorem heap_alloc_at (w : World) (o : Obj) : (w.alloc o).heap[w.heap.size]? = some o := heap_alloc_new w o

/-- What held of the blocks before holds of them after a step that leaves them and their ids alone. -/
theorem RepB.mono {c c' : Ctx} {ok : Nat → Prop} (L : c.Le c' ok) {id : Nat} {blk : IBlk} (hid : c'.μ id = c.μ id) (hk : c'.κ id = c.κ id)
    (hheap : c'.w.heap[c.μ id]? = c.w.heap[c.μ id]?) (hcell : ∀ o, c'.w.cell? ⟨c.μ id, o, none⟩ = c.w.cell? ⟨c.μ id, o, none⟩)
    (hm : ∀ ty cells, blk = .box ty cells → ∀ i, IV.mentL i cells = true → ok i) (h : RepB c id blk) : RepB c' id blk := by
  cases blk with
  | box ty cells =>
    obtain ⟨cs, h1, h2, h3⟩ := h
    exact ⟨cs, by rw [hid, hheap]; exact h1, RepL.mono L cells cs (fun i hi => hm ty cells rfl i hi) h2, h3⟩
  | arr k ty es =>
    obtain ⟨cur, h1, h2, h3, h4, h5, h6, h7⟩ := h
    refine ⟨cur, by rw [hid, hheap]; exact h1, by rw [hk]; exact h2, by rw [hk]; exact h3, h4, by rw [hk]; exact h5, h6, ?_⟩
    obtain ⟨xs, hX, hc⟩ := h7.toX
    rw [hid]
    exact (hX.mono L (fun i hi => by rw [h6 i] at hi; cases hi)).toR (fun j u hu => by rw [hcell]; exact hc j u hu)

/-- A new block, named d. -/
theorem newBlock (R : RepS F μ κ s a w) {d : Nat} (hd : d < F.N) (hm1 : mentTm d s.tm = false) (hm2 : mentHp d s.hp = false) {o : Obj} {w1 : World} (hw1 : Chg (fun _ => False) w w1) (hw1s : w1.heap.size = w.heap.size) (cap : Nat) (blk : IBlk)
    (hblk : ∀ c : Ctx, (ctx F μ κ s.hp w).Le c (fun i => i ≠ d) → c.μ d = w.heap.size → c.κ d = cap → c.w = w1.alloc o → RepB c d blk)
    (v : IV) (x : Value) (hv : ∀ c : Ctx, (ctx F μ κ s.hp w).Le c (fun i => i ≠ d) → c.μ d = w.heap.size → c.κ d = cap → c.sh d = some blk.shape → RepV c v x) :
    ∃ μ' κ', RepS F μ' κ' ⟨(d, v) :: s.tm, (d, some blk) :: s.hp⟩ (a.put (some d) x) (w1.alloc o) := by
  let μ' : Nat → Nat := fun i => if i = d then w.heap.size else μ i
  let κ' : Nat → Nat := fun i => if i = d then cap else κ i
  have hsize : (w1.alloc o).heap.size = w.heap.size + 1 := by simp [hw1s]
  have hold : ∀ b, b < w.heap.size → (w1.alloc o).heap[b]? = w.heap[b]? := fun b hb =>
    (RowKit.Below.heap_alloc w1 o b (by omega)).trans (hw1.block b hb (fun h => h))
  have hμlt : ∀ i, lkH s.hp i ≠ none → μ i < w.heap.size := by
    intro i hi
    cases hb : lkH s.hp i with
    | none => exact absurd hb hi
    | some b =>
      obtain ⟨hB, _⟩ := R.own i b hb
      cases b with
      | box ty cells => obtain ⟨cs, h1, _⟩ := hB; exact (Array.getElem?_eq_some_iff.1 h1).1
      | arr k ty es => obtain ⟨cur, h1, _⟩ := hB; exact (Array.getElem?_eq_some_iff.1 h1).1
  have hlk : ∀ i, lkH ((d, some blk) :: s.hp) i = if d = i then some blk else lkH s.hp i := fun i => rfl
  have hle : (ctx F μ κ s.hp w).Le (ctx F μ' κ' ((d, some blk) :: s.hp) (w1.alloc o)) (fun i => i ≠ d) := by
    refine ⟨fun i hi => .inr ?_, fun b hb hav => ?_, by show w.heap.size ≤ (w1.alloc o).heap.size; rw [hsize]; omega, fun b o' hb hav => ?_⟩
    · have hi' : ¬ d = i := fun h => hi h.symm
      refine ⟨?_, ?_, ?_⟩
      · show (lkH ((d, some blk) :: s.hp) i).map _ = (lkH s.hp i).map _
        rw [hlk, if_neg hi']
      · show (if i = d then _ else _) = _
        rw [if_neg hi]; rfl
      · show (if i = d then _ else _) = _
        rw [if_neg hi]; rfl
    · rcases hav with hA | ⟨i, hi, rfl⟩
      · exact .inl hA
      · by_cases hid : d = i
        · exfalso
          have : μ' i = w.heap.size := if_pos hid.symm
          rw [this] at hb
          exact Nat.lt_irrefl _ hb
        · refine .inr ⟨i, ?_, ?_⟩
          · rw [hlk, if_neg hid] at hi; exact hi
          · show μ i = (if i = d then _ else _)
            rw [if_neg (fun h => hid h.symm)]
    · exact World.cell?_of_block (hold b hb)
  have hchg : Chg F.B0 F.w0 (w1.alloc o) := by
    refine R.chg.trans (B' := fun _ => False) ⟨hw1.os, hw1.tape, hw1.output, by rw [hsize]; omega, fun b hb _ => hold b hb, hw1.drawn⟩ (fun _ h => h) (fun _ _ h => h.elim)
  have hμd : μ' d = w.heap.size := if_pos rfl
  have hκd : κ' d = cap := if_pos rfl
  have R' : RepS F μ' κ' ⟨s.tm, (d, some blk) :: s.hp⟩ a (w1.alloc o) := by
    refine R.move (fun i => i ≠ d) hchg ?_ ?_ hle (fun i id h => ?_) (fun i h1 h2 => by have := F.hN; exact ⟨if_neg (by omega), if_neg (by omega)⟩)
    · intro i j hi hj hij
      by_cases h1 : i = d
      · by_cases h2 : j = d
        · rw [h1, h2]
        · exfalso
          have e1 : μ' i = w.heap.size := if_pos h1
          have e2 : μ' j = μ j := if_neg h2
          have := hμlt j (by rw [hlk, if_neg (fun h => h2 h.symm)] at hj; exact hj)
          omega
      · by_cases h2 : j = d
        · exfalso
          have e1 : μ' j = w.heap.size := if_pos h2
          have e2 : μ' i = μ i := if_neg h1
          have := hμlt i (by rw [hlk, if_neg (fun h => h1 h.symm)] at hi; exact hi)
          omega
        · have e1 : μ' i = μ i := if_neg h1
          have e2 : μ' j = μ j := if_neg h2
          rw [hlk, if_neg (fun h => h1 h.symm)] at hi
          rw [hlk, if_neg (fun h => h2 h.symm)] at hj
          exact R.inj i j hi hj (by omega)
    · intro i b hb
      rw [hlk] at hb
      by_cases h1 : d = i
      · rw [if_pos h1] at hb
        injection hb with hb
        subst hb h1
        refine ⟨hblk _ hle hμd hκd rfl, ?_, .inr ?_⟩
        · rw [hμd]; intro hA; have := F.hA _ hA; have := R.chg.size; omega
        · rw [hμd]; exact R.chg.size
      · rw [if_neg h1] at hb
        obtain ⟨hB, hA, hpos⟩ := R.own i b hb
        have e1 : μ' i = μ i := if_neg (fun h => h1 h.symm)
        have e2 : κ' i = κ i := if_neg (fun h => h1 h.symm)
        have hlt := hμlt i (by rw [hb]; simp)
        rw [e1]
        refine ⟨RepB.mono hle e1 e2 (hold _ hlt) (fun o' => World.cell?_of_block (hold _ hlt)) (fun ty cells hbe i' hi' => ?_) hB, hA, hpos⟩
        subst hbe
        intro he
        subst he
        have := mentHp_lk hm2 i ty cells hb
        rw [this] at hi'
        cases hi'
    · intro he
      subst he
      rw [mentTm_lk hm1 i] at h
      cases h
  refine ⟨μ', κ', R'.put (hv _ hle hμd hκd ?_) hd⟩
  show (lkH ((d, some blk) :: s.hp) d).map _ = _
  rw [hlk, if_pos rfl]; rfl

theorem effNew_sound {ops : List Oper} {o : Oper} {s : ISt} {blk : IBlk} {v : Nat → IV} {ob : Prop} (hob : (effNew F.N ops o s blk v ob).ob)
    (hrun : ∀ d, o.dst = some d → (gval s.tm ops o).1 = true → ob → ∀ μ κ a w, RepS F μ κ s a w → mentTm d s.tm = false → mentHp d s.hp = false →
      ∃ x obj w1 cap, (execOp a.eval o).run P w = .ok (.value x) (World.alloc w1 obj) ∧ Chg (fun _ => False) w w1 ∧ w1.heap.size = w.heap.size ∧
        (∀ c : Ctx, (ctx F μ κ s.hp w).Le c (fun i => i ≠ d) → c.μ d = w.heap.size → c.κ d = cap → c.w = w1.alloc obj → RepB c d blk) ∧
        (∀ c : Ctx, (ctx F μ κ s.hp w).Le c (fun i => i ≠ d) → c.μ d = w.heap.size → c.κ d = cap → c.sh d = some blk.shape → RepV c (v d) x)) :
    StepOK P F ops o s (effNew F.N ops o s blk v ob) := by
  intro μ κ a w R Q next hn
  unfold effNew at hob hn
  cases hd : o.dst with
  | none => rw [hd] at hob; exact hob.elim
  | some d =>
    simp only [hd] at hob hn
    cases hG : (gval s.tm ops o).1 with
    | false =>
      rw [hG] at hob hn
      have := skipE_sound (P := P) (Q := Q) (next := next) R hob hG
      rw [← hd]
      exact this hn
    | true =>
      rw [hG] at hob hn
      simp only [cond_true] at hob hn
      obtain ⟨hg, hdN, hm1, hm2, hob'⟩ := hob
      rw [gval_wanted R hg, hG]
      simp only [if_true]
      refine .inl ?_
      obtain ⟨x, obj, w1, cap, hr, hw1, hw1s, hb, hv⟩ := hrun d hd hG hob' μ κ a w R hm1 hm2
      unfold Oper.wp
      rw [hr, Oper.upon_value, hd]
      obtain ⟨μ', κ', R'⟩ := newBlock R hdN hm1 hm2 hw1 hw1s cap blk hb (v d) x hv
      exact hn μ' κ' _ _ R'

theorem effAlloc_sound (hT : TOK P T) {t : TypeId} (ho : o.op = .alloc t) (hob : (effAlloc T F.N ops o t s).ob) : StepOK P F ops o s (effAlloc T F.N ops o t s) := by
  refine effNew_sound hob ?_
  intro d hd hG hon μ κ a w R hm1 hm2
  obtain ⟨i, z, hi, hsz, _, hz, helt, hfree⟩ := (hT t hon).info
  refine ⟨.pointer (some ⟨w.heap.size, 0, none⟩), .cells z.cells t, w, 0, ?_, Chg.refl _ _, rfl, ?_, ?_⟩
  · simp [execOp, ho, Instr.alloc, zeroValue, typeInfo, hi, hz, newVar, newRow]
  · intro c hle hμ hκ hw
    refine ⟨z.cells.toList, ?_, hfree c, helt.2.1⟩
    rw [hw, hμ]
    exact heap_alloc_at w _
  · intro c hle hμ hκ hs
    simp only [RepV]
    exact ⟨_, rfl, fun _ => by rw [hμ]⟩

theorem effBox_sound {t : TypeId} {x : Operand} (ho : o.op = .box t x) (hob : (effBox T F.N ops o t x s).ob) : StepOK P F ops o s (effBox T F.N ops o t x s) := by
  refine effNew_sound hob ?_
  rintro d hd hG ⟨hb, hs, hone⟩ μ κ a w R hm1 hm2
  have hx := gO_rep R hb
  refine ⟨.pointer (some ⟨w.heap.size, 0, none⟩), .cells (a.eval x).cells t, w, 0, ?_, Chg.refl _ _, rfl, ?_, ?_⟩
  · simp [execOp, ho, Instr.box, newVar, newRow]
  · intro c hle hμ hκ hw
    have hx' := RepV.mono hle _ _ (fun i hi => by rintro rfl; rw [gO_ment hm1 x] at hi; cases hi) hx
    have hL := cells_rep hx' hs
    refine ⟨(a.eval x).cells.toList, ?_, hL, all_one hL hone⟩
    rw [hw, hμ]
    exact heap_alloc_at w _
  · intro c hle hμ hκ hs'
    simp only [RepV]
    exact ⟨_, rfl, fun _ => by rw [hμ]⟩

end
end Go.Ideal
