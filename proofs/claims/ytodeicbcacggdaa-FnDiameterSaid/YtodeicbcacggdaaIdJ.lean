/- Stores, append and calls. -/
import Derived.Test.YtodeicbcacggdaaIdI
set_option linter.unusedVariables false
set_option linter.unusedSimpArgs false
namespace Go.Ideal
open Go

/-- What a store through a pointer makes of its block. -/
def storeV (T : Nat → TD) (h : Nat → Option IBlk) (t : TypeId) (x : IV) : IV → (Nat × IBlk) × Prop
  | .ptr id off =>
    match h id with
    | some (.box ty cells) => ((id, .box ty (over cells off x.cells)), (T t).on = true ∧ solid x = true ∧ x.cells.all oneI = true ∧ x.cells.length = (T t).size ∧ off + x.cells.length ≤ cells.length)
    | _ => ((0, default), False)
  | .aptr id i off =>
    match h id with
    | some (.arr k ty es) =>
      if off = 0 ∧ (T t).size = k then ((id, .arr k ty (es.set i x)), (T t).on = true ∧ solid x = true ∧ eltI k x ∧ noId' x = true ∧ i < es.length)
      else match es.getD i .junk with
        | .agg l => ((id, .arr k ty (es.set i (.agg (over l off x.cells)))), (T t).on = true ∧ solid x = true ∧ x.cells.length = (T t).size ∧ off + x.cells.length ≤ l.length ∧ i < es.length ∧ eltI k (.agg (over l off x.cells)) ∧ noId' (.agg (over l off x.cells)) = true)
        | _ => ((0, default), False)
    | _ => ((0, default), False)
  | _ => ((0, default), False)

def effStore (T : Nat → TD) (N : Nat) (ops : List Oper) (o : Oper) (t : TypeId) (p x : Operand) (s : ISt) : Eff :=
  bif (gval s.tm ops o).1 then
    { ob := (gval s.tm ops o).2 ∧ o.dst = none ∧ gB s.tm p = true ∧ gB s.tm x = true ∧ (storeV T (lkH s.hp) t (gO s.tm x) (gO s.tm p)).2, tv := [],
      hv := [((storeV T (lkH s.hp) t (gO s.tm x) (gO s.tm p)).1.1, some (storeV T (lkH s.hp) t (gO s.tm x) (gO s.tm p)).1.2)] }
  else { ob := (gval s.tm ops o).2 ∧ o.dst = none, tv := [], hv := [] }

section
variable {P : Program} {T : Nat → TD} {F : Fr} {μ κ : Nat → Nat} {s : ISt} {a : Act} {w : World} {ops : List Oper} {o : Oper}

theorem lt_of_own (R : RepS F μ κ s a w) {id : Nat} {b : IBlk} (hb : lkH s.hp id = some b) : μ id < w.heap.size := by
  obtain ⟨hB, _⟩ := R.own id b hb
  cases b with
  | box ty cells => obtain ⟨cs, h1, _⟩ := hB; exact (Array.getElem?_eq_some_iff.1 h1).1
  | arr k ty es => obtain ⟨cur, h1, _⟩ := hB; exact (Array.getElem?_eq_some_iff.1 h1).1

/-- One block of the frame's own is written: the others stand. -/
theorem writeBlock (R : RepS F μ κ s a w) {id : Nat} {b b' : IBlk} (hb : lkH s.hp id = some b) (hs : b'.shape = b.shape) {w' : World}
    (hw : Chg (fun x => x = μ id) w w') (hz : w'.heap.size = w.heap.size)
    (hB : ∀ c : Ctx, (ctx F μ κ s.hp w).Le c (fun _ => True) → c.μ = μ → c.κ = κ → c.w = w' → RepB c id b') :
    RepS F μ κ ⟨s.tm, (id, some b') :: s.hp⟩ a w' := by
  have hlk : ∀ i, lkH ((id, some b') :: s.hp) i = if id = i then some b' else lkH s.hp i := fun i => rfl
  have hne : ∀ i, lkH ((id, some b') :: s.hp) i ≠ none ↔ lkH s.hp i ≠ none := by
    intro i
    rw [hlk]
    by_cases h : id = i
    · subst h; simp [hb]
    · rw [if_neg h]
  have hown := (R.own id b hb).2
  have hle : (ctx F μ κ s.hp w).Le (ctx F μ κ ((id, some b') :: s.hp) w') (fun _ => True) := by
    refine ⟨fun i _ => .inr ⟨?_, rfl, rfl⟩, fun x hx hav => ?_, by show w.heap.size ≤ w'.heap.size; omega, fun x o' hx hav => ?_⟩
    · show (lkH ((id, some b') :: s.hp) i).map _ = (lkH s.hp i).map _
      rw [hlk]
      by_cases h : id = i
      · subst h; rw [if_pos rfl, hb]; simp [hs]
      · rw [if_neg h]
    · rcases hav with hA | ⟨i, hi, he⟩
      · exact .inl hA
      · exact .inr ⟨i, (hne i).1 hi, he⟩
    · refine World.cell?_of_block (hw.block x hx (fun he => hav (.inr ⟨id, by rw [hb]; simp, he.symm⟩)))
  have hchg : Chg F.B0 F.w0 w' := by
    refine R.chg.trans hw (fun _ h => h) (fun x hx he => ?_)
    subst he
    rcases hown.2 with h | h
    · exact h
    · omega
  refine R.move (fun _ => True) hchg (fun i j hi hj => R.inj i j ((hne i).1 hi) ((hne j).1 hj)) (fun i c hc => ?_) hle (fun _ _ _ => trivial) (fun _ _ _ => ⟨rfl, rfl⟩)
  rw [hlk] at hc
  by_cases h : id = i
  · rw [if_pos h] at hc
    injection hc with hc
    subst hc h
    exact ⟨hB _ hle rfl rfl rfl, hown⟩
  · rw [if_neg h] at hc
    obtain ⟨hB', hr⟩ := R.own i c hc
    have hneb : μ i ≠ μ id := fun he => h (R.inj id i (by rw [hb]; simp) (by rw [hc]; simp) he.symm)
    have hlt := lt_of_own R hc
    exact ⟨RepB.mono hle rfl rfl (hw.block _ hlt hneb) (fun o' => World.cell?_of_block (hw.block _ hlt hneb)) (fun _ _ _ _ _ => trivial) hB', hr⟩

theorem run_storeVar {t : TypeId} {d : TD} (ht : TyOK P t d) {v : Value} (hv : v.cells.size = d.size) (g off : Nat) (ty : TypeId) (cur : Array Value) (w : World) (hg : w.heap[g]? = some (.cells cur ty (0, 0)))
    (hfit : off + v.cells.size ≤ cur.size) (h1 : ∀ u ∈ v.cells.toList, u.oneCell' = true) :
    (storeVar t ⟨g, off, none⟩ v).run P w = .ok () (w.setRow g ⟨overV cur.toList off v.cells.toList⟩) := by
  have := run_storeCells_at P g off ty v.cells.toList 0 cur w hg (by simpa using hfit) h1
  simp only [storeVar, Sem.run_bind, ht.size, Result.andThen_ok, hv, ne_eq, not_true_eq_false, if_false, this, overV, Nat.add_zero]

theorem chg_setRow (w : World) (g : Nat) (cs : Array Value) : Chg (fun x => x = g) w (w.setRow g cs) :=
  ⟨rfl, rfl, rfl, by simp, fun b _ hb => setRow_other w g b cs hb, Nat.le_refl _⟩

theorem RepR.set {c : Ctx} {k b : Nat} {e : IV} {x : Value} (hx : RepV c e x) (hk : EltOk k x) : ∀ {es : List IV} {o : Nat} (i : Nat), i < es.length →
    RepR c k b o es → ∀ {c' : Ctx}, c.Le c' (fun _ => True) →
    (∀ q, (q < o + i * k ∨ o + i * k + k ≤ q) → c'.w.cell? ⟨b, q, none⟩ = c.w.cell? ⟨b, q, none⟩) → (∀ j, j < k → c'.w.cell? ⟨b, o + i * k + j, none⟩ = x.cells[j]?) →
    RepR c' k b o (es.set i e)
  | [], o, i, hi, _, _, _, _, _ => by simp at hi
  | e0 :: es, o, 0, hi, h, c', L, hout, hin => by
    simp only [RepR, List.set_cons_zero] at h ⊢
    refine ⟨⟨x, RepV.mono L e x (fun _ _ => trivial) hx, hk, fun j hj => by have := hin j hj; simpa using this⟩, ?_⟩
    obtain ⟨xs, hX, hc⟩ := h.2.toX
    exact (hX.mono L (fun _ _ => trivial)).toR (fun j u hu => by rw [hout _ (by right; omega)]; exact hc j u hu)
  | e0 :: es, o, i + 1, hi, h, c', L, hout, hin => by
    simp only [RepR, List.set_cons_succ] at h ⊢
    obtain ⟨⟨y, hy, hk', hc⟩, hr⟩ := h
    have hmul : o + (i + 1) * k = o + k + i * k := by rw [Nat.add_mul]; omega
    refine ⟨⟨y, RepV.mono L e0 y (fun _ _ => trivial) hy, hk', fun j hj => by rw [hout _ (by left; rw [hmul]; omega)]; exact hc j hj⟩, ?_⟩
    refine RepR.set hx hk i (by simpa using hi) hr L (fun q hq => hout q (by rw [hmul]; exact hq)) (fun j hj => ?_)
    have := hin j hj
    rwa [hmul] at this

theorem overV_get {l cs : List Value} {o : Nat} (hfit : o + cs.length ≤ l.length) (q : Nat) :
    (overV l o cs)[q]? = if q < o then l[q]? else if q < o + cs.length then cs[q - o]? else l[q]? := by
  unfold overV
  have h1 : (l.take o).length = o := by simp; omega
  by_cases ha : q < o
  · rw [if_pos ha, List.append_assoc, List.getElem?_append_left (by omega), List.getElem?_take, if_pos ha]
  · rw [if_neg ha]
    by_cases hb : q < o + cs.length
    · rw [if_pos hb, List.getElem?_append_left (by simp; omega), List.getElem?_append_right (by omega), h1]
    · rw [if_neg hb, List.getElem?_append_right (by simp; omega), List.getElem?_drop]
      congr 1
      simp; omega

/-- An element is written: the value x over k cells, or a part of it. -/
theorem storeElt (R : RepS F μ κ s a w) {id k : Nat} {ty : TypeId} {es : List IV} (hb : lkH s.hp id = some (.arr k ty es)) {i off : Nat} (hi : i < es.length) {cs : List Value} {y : Value} {e : IV}
    (hoff : off + cs.length ≤ k) (hy : EltOk k y) (hno : noId e)
    (he : RepV (ctx F μ κ s.hp w) e y)
    (hcells : ∀ x, RepV (ctx F μ κ s.hp w) (es.getD i .junk) x → EltOk k x → (∀ j, j < k → w.cell? ⟨μ id, i * k + j, none⟩ = x.cells[j]?) → y.cells.toList = overV x.cells.toList off cs)
    {cur : Array Value} (hcur : w.heap[μ id]? = some (.cells cur ty (0, 0))) :
    i * k + off + cs.length ≤ cur.size ∧ RepS F μ κ ⟨s.tm, (id, some (.arr k ty (es.set i e))) :: s.hp⟩ a (w.setRow (μ id) ⟨overV cur.toList (i * k + off) cs⟩) := by
  obtain ⟨⟨cur', h1, h2, h3, h4, h5, h6, h7⟩, hr⟩ := R.own id _ hb
  have h1' : w.heap[μ id]? = some (.cells cur' ty (0, 0)) := h1
  rw [hcur] at h1'
  injection h1' with h1'
  injection h1' with h1'
  subst h1'
  have h2' : cur.size = κ id * k := h2
  have h5' : es.length ≤ κ id := h5
  have hfit : i * k + off + cs.length ≤ cur.size := by
    have : (i + 1) * k ≤ κ id * k := Nat.mul_le_mul_right _ (by omega)
    rw [Nat.add_mul] at this
    omega
  refine ⟨hfit, ?_⟩
  refine writeBlock R (b' := .arr k ty (es.set i e)) hb rfl (chg_setRow _ _ _) (by simp) (fun c hle hμ hκ hw => ?_)
  have hsize : (⟨overV cur.toList (i * k + off) cs⟩ : Array Value).size = cur.size := by
    simp only [overV, List.size_toArray, List.length_append, List.length_take, List.length_drop, Array.length_toList]; omega
  have hheap : c.w.heap[c.μ id]? = some (.cells ⟨overV cur.toList (i * k + off) cs⟩ ty (0, 0)) := by rw [hw, hμ]; exact setRow_heap w _ cur _ _ _ hcur
  refine ⟨_, hheap, by rw [hsize, hκ]; exact h2', by rw [hκ]; exact h3, h4, by rw [hκ]; simpa using h5', ?_, ?_⟩
  · refine noIdL_of fun z hz => ?_
    rcases List.mem_or_eq_of_mem_set hz with hz | rfl
    · exact noIdL_mem h6 z hz
    · exact hno
  · obtain ⟨x, hx, hkx, hcx⟩ := h7.get i hi
    have hcx' : ∀ j, j < k → w.cell? ⟨μ id, i * k + j, none⟩ = x.cells[j]? := fun j hj => by have := hcx j hj; rwa [Nat.zero_add] at this
    have hyc := hcells x hx hkx hcx'
    have hxl := eltOk_cells hkx
    have hcell : ∀ q, c.w.cell? ⟨c.μ id, q, none⟩ = (overV cur.toList (i * k + off) cs)[q]? := fun q => by rw [cell_of_row _ _ _ _ _ _ hheap]; simp
    have hold : ∀ q, w.cell? ⟨μ id, q, none⟩ = cur.toList[q]? := fun q => by rw [cell_of_row _ _ _ _ _ _ hcur]; simp
    have hov := overV_get (l := cur.toList) (cs := cs) (o := i * k + off) (by simpa using hfit)
    rw [hμ]
    refine RepR.set (c := ctx F μ κ s.hp w) (b := μ id) he hy i hi h7 hle (fun q hq => ?_) (fun j hj => ?_)
    · have := hcell q
      rw [hμ] at this
      rw [this, hov]
      show _ = w.cell? _
      rw [hold]
      rcases hq with hq | hq
      · rw [if_pos (by omega)]
      · rw [if_neg (by omega), if_neg (by omega)]
    · have := hcell (0 + i * k + j)
      rw [hμ] at this
      rw [this, hov]
      have e1 : y.cells[j]? = y.cells.toList[j]? := by simp
      rw [e1, hyc, overV_get (by omega)]
      by_cases ha : j < off
      · rw [if_pos (by omega), if_pos ha, ← hold, Nat.zero_add, hcx' j hj]; simp
      · by_cases hb' : j < off + cs.length
        · rw [if_neg (by omega), if_pos (by omega), if_neg ha, if_pos hb']
          congr 1; omega
        · rw [if_neg (by omega), if_neg (by omega), if_neg ha, if_neg hb', ← hold, Nat.zero_add, hcx' j hj]; simp

theorem storeV_run (hT : TOK P T) (R : RepS F μ κ s a w) {t : TypeId} {x p : IV} {v u : Value} (hx : RepV (ctx F μ κ s.hp w) x v) (hp : RepV (ctx F μ κ s.hp w) p u) (hob : (storeV T (lkH s.hp) t x p).2) :
    ∃ w', (Instr.storeAt t u v).run P w = .ok () w' ∧ RepS F μ κ ⟨s.tm, ((storeV T (lkH s.hp) t x p).1.1, some (storeV T (lkH s.hp) t x p).1.2) :: s.hp⟩ a w' := by
  cases p with
  | ptr id off =>
    simp only [storeV] at hob ⊢
    cases hb : lkH s.hp id with
    | none => simp [hb] at hob
    | some blk =>
      cases blk with
      | arr k ty es => simp [hb] at hob
      | box ty cells =>
        simp only [hb] at hob ⊢
        obtain ⟨hon, hs, hone, hlen, hfit⟩ := hob
        obtain ⟨⟨cs, hheap, hl, h1⟩, hr⟩ := R.own id _ hb
        simp only [RepV] at hp
        obtain ⟨a', rfl, hv⟩ := hp
        obtain rfl := hv (by show (lkH s.hp id).map _ = _; rw [hb]; rfl)
        have hxL := cells_rep hx hs
        have hcl := hxL.length
        have hll := hl.length
        have hone' := all_one hxL hone
        have hsz : v.cells.size = (T t).size := by rw [← hlen, ← hcl]; simp
        have hrun := run_storeVar (hT t hon) (v := v) hsz (μ id) off ty ⟨cs⟩ w hheap (by simp at hcl ⊢; omega) hone'
        refine ⟨_, by simp only [Instr.storeAt, Instr.sureAddr, Sem.run_bind, Sem.run_pure, Result.andThen_ok]; exact hrun, ?_⟩
        refine writeBlock R (b' := .box ty (over cells off x.cells)) hb rfl (chg_setRow _ _ _) (by simp) (fun c hle hμ hκ hw => ?_)
        refine ⟨overV cs off v.cells.toList, by rw [hw, hμ]; exact setRow_heap w _ _ _ _ _ hheap, ?_, fun z hz => ?_⟩
        · exact (RepL.mono hle _ _ (fun _ _ => trivial) hl).lay (RepL.mono hle _ _ (fun _ _ => trivial) hxL) off
        · unfold overV at hz
          rcases List.mem_append.1 hz with hz | hz
          · rcases List.mem_append.1 hz with hz | hz
            · exact h1 z (List.mem_of_mem_take hz)
            · exact hone' z hz
          · exact h1 z (List.mem_of_mem_drop hz)
  | aptr id i off =>
    simp only [storeV] at hob ⊢
    cases hb : lkH s.hp id with
    | none => simp [hb] at hob
    | some blk =>
      cases blk with
      | box ty cells => simp [hb] at hob
      | arr k ty es =>
        simp only [hb] at hob ⊢
        obtain ⟨⟨cur, hheap, h2, h3, h4, h5, h6, h7⟩, hr⟩ := R.own id _ hb
        simp only [RepV] at hp
        obtain ⟨a', rfl, hv⟩ := hp
        obtain rfl := hv k h4 (by show (lkH s.hp id).map _ = _; rw [hb]; rfl)
        by_cases h0 : off = 0 ∧ (T t).size = k
        · rw [if_pos h0] at hob ⊢
          obtain ⟨hon, hs, helt, hno, hi⟩ := hob
          have hk := eltI_ok hx helt
          have hkl := eltOk_cells hk
          obtain ⟨hfit, R'⟩ := storeElt R hb hi (off := 0) (cs := v.cells.toList) (y := v) (e := x) (by omega) hk (noId'_ok hno) hx
            (fun z hz hkz _ => by
              have hzl := eltOk_cells hkz
              unfold overV
              rw [List.drop_of_length_le (by omega)]; simp) hheap
          have hrun := run_storeVar (hT t hon) (v := v) (by rw [hk.1, h0.2]) (μ id) (i * k + 0) ty cur w hheap (by simpa using hfit) hk.2.1
          rw [h0.1]
          exact ⟨_, by simp only [Instr.storeAt, Instr.sureAddr, Sem.run_bind, Sem.run_pure, Result.andThen_ok]; exact hrun, R'⟩
        · rw [if_neg h0] at hob ⊢
          cases hg : es.getD i .junk with
          | agg l =>
            rw [hg] at hob
            simp only at hob ⊢
            obtain ⟨hon, hs, hlen, hfit0, hi, helt, hno⟩ := hob
            have hxL := cells_rep hx hs
            have hcl := hxL.length
            obtain ⟨y0, hy0, hk0, hc0⟩ := h7.get i hi
            rw [hg] at hy0
            have hy0' := hy0
            simp only [RepV] at hy0'
            obtain ⟨vs, rfl, hl⟩ := hy0'
            have hE : RepV (ctx F μ κ s.hp w) (.agg (over l off x.cells)) (.agg ⟨overV vs off v.cells.toList⟩) := by
              simp only [RepV]
              exact ⟨_, rfl, hl.lay hxL off⟩
            have hk := eltI_ok hE helt
            have hvl : vs.length = k := by have := hk0.1; simpa [Value.cells] using this
            have hll := hl.length
            obtain ⟨hfit, R'⟩ := storeElt R hb hi (off := off) (cs := v.cells.toList) (e := .agg (over l off x.cells)) (by omega) hk (noId'_ok hno) hE
              (fun z hz hkz hcz => by
                have : z = .agg ⟨vs⟩ := by
                  have e1 : ∀ j, j < k → z.cells[j]? = (⟨vs⟩ : Array Value)[j]? := fun j hj => by
                    rw [← hcz j hj]
                    have := hc0 j hj
                    rw [Nat.zero_add] at this
                    exact this
                  have hzk := hkz.1
                  have ez : z.cells = ⟨vs⟩ := by
                    apply Array.ext_getElem?
                    intro j
                    by_cases hj : j < k
                    · exact e1 j hj
                    · rw [Array.getElem?_eq_none (by omega), Array.getElem?_eq_none (by simp; omega)]
                  have hag := hkz.2.2.1
                  have hag0 := hk0.2.2.1
                  rw [← hag0] at hag
                  cases z with
                  | agg cs' => simp only [Value.cells] at ez; rw [ez]
                  | _ => simp [isAggV] at hag
                subst this
                simp [Value.cells]) hheap
            have hone' : ∀ u ∈ v.cells.toList, u.oneCell' = true := fun u hu => hk.2.1 u (List.mem_append.2 (.inl (List.mem_append.2 (.inr hu))))
            have hrun := run_storeVar (hT t hon) (v := v) (by rw [← hlen, ← hcl]; simp) (μ id) (i * k + off) ty cur w hheap (by simpa using hfit) hone'
            exact ⟨_, by simp only [Instr.storeAt, Instr.sureAddr, Sem.run_bind, Sem.run_pure, Result.andThen_ok]; exact hrun, R'⟩
          | _ => rw [hg] at hob; exact hob.elim
  | _ => simp [storeV] at hob

theorem effStore_sound (hT : TOK P T) {t : TypeId} {p x : Operand} (ho : o.op = .store t p x) (hob : (effStore T F.N ops o t p x s).ob) : StepOK P F ops o s (effStore T F.N ops o t p x s) := by
  intro μ κ a w R Q next hn
  unfold effStore at hob hn
  cases hG : (gval s.tm ops o).1 with
  | false =>
    rw [hG] at hob hn
    simp only [cond_false] at hob hn
    rw [gval_wanted R hob.1, hG, hob.2]
    simp only [Bool.false_eq_true, if_false]
    exact hn μ κ _ _ R
  | true =>
    rw [hG] at hob hn
    simp only [cond_true] at hob hn
    obtain ⟨hg, hd, hbp, hbx, hst⟩ := hob
    rw [gval_wanted R hg, hG]
    simp only [if_true]
    refine .inl ?_
    obtain ⟨w', hr, R'⟩ := storeV_run (P := P) hT R (gO_rep R hbx) (gO_rep R hbp) hst
    have hrun : (execOp a.eval o).run P w = .ok .skip w' := by
      simp only [execOp, ho, Sem.run_bind, hr, Result.andThen_ok, Sem.run_pure]
    unfold Oper.wp
    rw [hrun, Oper.upon_skip, hd]
    exact hn μ κ _ _ R'

end
end Go.Ideal
