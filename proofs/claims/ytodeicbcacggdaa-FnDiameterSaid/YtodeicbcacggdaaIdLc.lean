/- The built-in clear, at a slice of the frame's own. -/
import Derived.Test.YtodeicbcacggdaaIdL
set_option linter.unusedVariables false
set_option linter.unusedSimpArgs false
namespace Go.Ideal
open Go

theorem RepR_of {c : Ctx} {k b : Nat} : ∀ {es : List IV} {o : Nat}, (∀ i, i < es.length → ∃ x, RepV c (es.getD i .junk) x ∧ EltOk k x ∧ ∀ j, j < k → c.w.cell? ⟨b, o + i * k + j, none⟩ = x.cells[j]?) → RepR c k b o es
  | [], o, _ => by simp [RepR]
  | e :: es, o, h => by
    simp only [RepR]
    refine ⟨?_, RepR_of (fun i hi => ?_)⟩
    · obtain ⟨x, h1, h2, h3⟩ := h 0 (by simp)
      exact ⟨x, by simpa using h1, h2, by simpa using h3⟩
    · obtain ⟨x, h1, h2, h3⟩ := h (i + 1) (by simpa using hi)
      refine ⟨x, by simpa using h1, h2, fun j hj => ?_⟩
      have := h3 j hj
      rwa [show o + (i + 1) * k + j = o + k + i * k + j by rw [Nat.add_mul]; omega] at this

def effClear (T : Nat → TD) (N : Nat) (ops : List Oper) (o : Oper) (t : TypeId) (x : Operand) (s : ISt) : Eff :=
  bif (gval s.tm ops o).1 then
    match gO s.tm x with
    | .ref id off n _ =>
      match lkH s.hp id with
      | some (.arr k ty es) =>
        { ob := (gval s.tm ops o).2 ∧ o.dst = none ∧ gB s.tm x = true ∧ (T t).on = true ∧ (T t).elem ≠ 0 ∧ (T (T t).elem).on = true ∧ (T t).elem = ty ∧ (T (T t).elem).size = k ∧ off + n ≤ es.length ∧ noId' (zeroElt (T (T t).elem)) = true,
          tv := [], hv := [(id, some (.arr k ty (es.take off ++ List.replicate n (zeroElt (T (T t).elem)) ++ es.drop (off + n))))] }
      | _ => { ob := False, tv := [], hv := [] }
    | _ => { ob := False, tv := [], hv := [] }
  else { ob := (gval s.tm ops o).2 ∧ o.dst = none, tv := [], hv := [] }

section
variable {P : Program} {T : Nat → TD} {F : Fr} {μ κ : Nat → Nat} {s : ISt} {a : Act} {w : World} {ops : List Oper} {o : Oper}

theorem cleared_getD {es : List IV} {off n : Nat} {z : IV} (h : off + n ≤ es.length) (i : Nat) (hi : i < es.length) :
    (es.take off ++ List.replicate n z ++ es.drop (off + n)).getD i .junk = if off ≤ i ∧ i < off + n then z else es.getD i .junk := by
  have h1 : (es.take off).length = off := by simp; omega
  simp only [List.getD_eq_getElem?_getD]
  by_cases ha : i < off
  · rw [if_neg (by omega), List.append_assoc, List.getElem?_append_left (by omega), List.getElem?_take, if_pos ha]
  · by_cases hb : i < off + n
    · rw [if_pos ⟨by omega, hb⟩, List.getElem?_append_left (by simp; omega), List.getElem?_append_right (by omega), h1, List.getElem?_replicate, if_pos (by omega)]
      rfl
    · rw [if_neg (by omega), List.getElem?_append_right (by simp; omega), List.getElem?_drop]
      congr 2
      simp; omega

theorem effClear_sound (hT : TOK P T) {t : TypeId} {x : Operand} (ho : o.op = .call { callee := .builtin .clear, args := #[x], argTypes := #[t] })
    (hob : (effClear T F.N ops o t x s).ob) : StepOK P F ops o s (effClear T F.N ops o t x s) := by
  intro μ κ a w R Q next hn
  unfold effClear at hob hn
  cases hG : (gval s.tm ops o).1 with
  | false =>
    rw [hG] at hob hn
    simp only [cond_false] at hob hn
    rw [gval_wanted R hob.1, hG]
    simp only [Bool.false_eq_true, if_false]
    refine hn μ κ _ _ ?_
    rw [hob.2]
    exact R.putNone _
  | true =>
    rw [hG] at hob hn
    simp only [cond_true] at hob hn
    cases hx : gO s.tm x with
    | ref id off n f =>
      rw [hx] at hob hn
      simp only at hob hn
      cases hb : lkH s.hp id with
      | none => rw [hb] at hob; exact hob.elim
      | some blk =>
        cases blk with
        | box ty cells => rw [hb] at hob; exact hob.elim
        | arr k ty es =>
          rw [hb] at hob hn
          simp only at hob hn
          obtain ⟨hg, hd, hbx, hon, he, hoe, rfl, rfl, hfit, hno⟩ := hob
          rw [gval_wanted R hg, hG]
          simp only [if_true]
          refine .inl ?_
          have hu := (hT t hon).slice he
          obtain ⟨i, z, hi, hsz, hbytes, hz, helt, hfree⟩ := (hT _ hoe).info
          generalize hk : (T (T t).elem).size = k at *
          have hxr := gO_rep R hbx
          rw [hx] at hxr
          simp only [RepV] at hxr
          obtain ⟨ao, cp, hv, han, hxr⟩ := hxr
          obtain ⟨⟨cur, h1, h2, h3, h4, h5, h6, h7⟩, hr⟩ := R.own id _ hb
          have h1' : w.heap[μ id]? = some (.cells cur (T t).elem (0, 0)) := h1
          have h2' : cur.size = κ id * k := h2
          have h5' : es.length ≤ κ id := h5
          obtain ⟨hn1, hcap, _, ha⟩ := hxr k h4 (by show (lkH s.hp id).map _ = _; rw [hb]; rfl)
          have hzv : ∀ w', (zeroValue (T t).elem).run P w' = .ok z w' := fun w' => by simp [zeroValue, typeInfo, hi, hz]
          have hzs : z.cells.size = k := helt.1
          let cs := (Builtin.zeroCells z.cells n).toList
          have hcl : cs.length = n * k := by simp [cs, Builtin.zeroCells, hzs]
          have hcq : ∀ q, q < n * k → cs[q]? = z.cells[q % k]? := by
            intro q hq
            have hm : q % k < z.cells.size := by rw [hzs]; exact Nat.mod_lt _ (by omega)
            simp only [cs, Builtin.zeroCells, hzs, Array.getElem?_toList, Array.getElem?_map]
            rw [Array.getElem?_eq_getElem (by simpa using hq), Array.getElem?_eq_getElem hm]
            simp only [Option.map_some, Array.getElem_range, Option.some.injEq]
            exact getElem!_pos z.cells (q % k) hm
          have hfc : off * k + n * k ≤ cur.size := by
            rw [h2', ← Nat.add_mul]
            exact Nat.mul_le_mul_right _ (by omega)
          have hone : ∀ u ∈ cs, u.oneCell' = true := by
            intro u hu'
            obtain ⟨q, hq, rfl⟩ := List.mem_iff_getElem.1 hu'
            have h0 := hcq q (by omega)
            rw [List.getElem?_eq_getElem hq] at h0
            exact helt.2.1 _ (by have := Array.mem_of_getElem? h0.symm; simpa using this)
          have fin : ∀ w', (w' = w ∧ n = 0) ∨ (w' = w.setRow (μ id) ⟨overV cur.toList (off * k) cs⟩ ∧ 0 < n) →
              RepS F μ κ ⟨s.tm, (id, some (.arr k (T t).elem (es.take off ++ List.replicate n (zeroElt (T (T t).elem)) ++ es.drop (off + n)))) :: s.hp⟩ a w' := by
            intro w' hw'
            have hcell : ∃ cur', w'.heap[μ id]? = some (.cells cur' (T t).elem (0, 0)) ∧ cur'.size = cur.size ∧ ∀ q, w'.cell? ⟨μ id, q, none⟩ = if off * k ≤ q ∧ q < off * k + n * k then z.cells[(q - off * k) % k]? else cur.toList[q]? := by
              rcases hw' with ⟨rfl, rfl⟩ | ⟨rfl, h0⟩
              · refine ⟨cur, h1', rfl, fun q => ?_⟩
                rw [if_neg (by omega), cell_of_row _ _ _ _ _ _ h1']; simp
              · have hh : (w.setRow (μ id) ⟨overV cur.toList (off * k) cs⟩).heap[μ id]? = some (.cells ⟨overV cur.toList (off * k) cs⟩ (T t).elem (0, 0)) := setRow_heap w _ cur _ _ _ h1'
                refine ⟨_, hh, ?_, fun q => ?_⟩
                · simp only [overV, List.size_toArray, List.length_append, List.length_take, List.length_drop, Array.length_toList]; omega
                · rw [cell_of_row _ _ _ _ _ _ hh]
                  have := overV_get (l := cur.toList) (cs := cs) (o := off * k) (by simpa [hcl] using hfc) q
                  simp only [List.getElem?_toArray, this, hcl]
                  by_cases ha : q < off * k
                  · rw [if_pos ha, if_neg (by omega)]
                  · rw [if_neg ha]
                    by_cases hb' : q < off * k + n * k
                    · rw [if_pos hb', if_pos (by omega), hcq _ (by omega)]
                    · rw [if_neg hb', if_neg (by omega)]
            obtain ⟨cur', hheap, hs', hcl'⟩ := hcell
            have hlen : (es.take off ++ List.replicate n (zeroElt (T (T t).elem)) ++ es.drop (off + n)).length = es.length := by simp; omega
            have hchg : Chg (fun x => x = μ id) w w' := by
              rcases hw' with ⟨rfl, _⟩ | ⟨rfl, _⟩
              · exact Chg.refl _ _
              · exact chg_setRow _ _ _
            have hsize : w'.heap.size = w.heap.size := by rcases hw' with ⟨rfl, _⟩ | ⟨rfl, _⟩ <;> simp
            refine writeBlock R (b' := .arr k (T t).elem (es.take off ++ List.replicate n (zeroElt (T (T t).elem)) ++ es.drop (off + n))) hb rfl hchg hsize (fun c hle hμ hκ hw => ?_)
            subst hw
            refine ⟨cur', by rw [hμ]; exact hheap, by rw [hs', hκ]; exact h2', by rw [hκ]; exact h3, h4, by rw [hκ, hlen]; exact h5', ?_, ?_⟩
            · refine noIdL_of fun y hy => ?_
              rcases List.mem_append.1 hy with hy | hy
              · rcases List.mem_append.1 hy with hy | hy
                · exact noIdL_mem h6 y (List.mem_of_mem_take hy)
                · rw [List.eq_of_mem_replicate hy]; exact noId'_ok hno
              · exact noIdL_mem h6 y (List.mem_of_mem_drop hy)
            · rw [hμ]
              refine RepR_of (fun i hi => ?_)
              rw [hlen] at hi
              rw [cleared_getD hfit i hi]
              by_cases hin : off ≤ i ∧ i < off + n
              · rw [if_pos hin]
                refine ⟨z, zeroElt_rep (by rw [hk]; exact helt) hfree, helt, fun j hj => ?_⟩
                have m1 : off * k ≤ i * k := Nat.mul_le_mul_right _ hin.1
                have m2 : (i + 1) * k ≤ (off + n) * k := Nat.mul_le_mul_right _ (by omega)
                rw [Nat.add_mul, Nat.add_mul] at m2
                rw [hcl', if_pos (by omega)]
                congr 1
                rw [show 0 + i * k + j - off * k = (i - off) * k + j by rw [Nat.sub_mul]; omega, Nat.mul_comm, Nat.mul_add_mod]
                exact Nat.mod_eq_of_lt hj
              · rw [if_neg hin]
                obtain ⟨y, hy, hky, hcy⟩ := h7.get i hi
                refine ⟨y, RepV.mono hle _ _ (fun _ _ => trivial) hy, hky, fun j hj => ?_⟩
                have m1 : i < off → (i + 1) * k ≤ off * k := fun h => Nat.mul_le_mul_right _ (by omega)
                have m2 : off + n ≤ i → (off + n) * k ≤ i * k := fun h => Nat.mul_le_mul_right _ h
                rw [Nat.add_mul] at m1 m2
                rw [hcl', if_neg (by omega)]
                have := hcy j hj
                rw [← this]
                show _ = w.cell? ⟨μ id, _, none⟩
                rw [cell_of_row _ _ _ _ _ _ h1']
                simp
          unfold Oper.wp
          by_cases h0 : n = 0
          · subst h0
            have hrun : (execOp a.eval o).run P w = .ok (.value (.tuple #[])) w := by
              have hev : a.eval x = .slice ao 0 cp := hv
              cases ao <;> simp [execOp, ho, hev, resolve, invoke, builtin, Builtin.clear_, run_underlying hu]
            rw [hrun, Oper.upon_value, hd]
            exact hn μ κ _ _ (fin w (.inl ⟨rfl, rfl⟩))
          · have hao := ha (.inl (by omega))
            subst hao
            have hrun : (execOp a.eval o).run P w = .ok (.value (.tuple #[])) (w.setRow (μ id) ⟨overV cur.toList (off * k) cs⟩) := by
              have hev : a.eval x = .slice (some ⟨μ id, off * k, none⟩) n cp := hv
              have hst := run_storeCells_at P (μ id) (off * k) (T t).elem cs 0 cur w h1' (by omega) hone
              obtain ⟨m, rfl⟩ : ∃ m, n = m + 1 := ⟨n - 1, by omega⟩
              simp [execOp, ho, hev, resolve, invoke, builtin, Builtin.clear_, run_underlying hu, hzv]
              have hst' : (storeCells ⟨μ id, off * k, none⟩ (Builtin.zeroCells z.cells (m + 1)).toList).run P w = .ok () (w.setRow (μ id) ⟨overV cur.toList (off * k) cs⟩) := by
                simpa only [overV, Nat.add_zero] using hst
              rw [hst']
              rfl
            rw [hrun, Oper.upon_value, hd]
            exact hn μ κ _ _ (fin _ (.inr ⟨rfl, by omega⟩))
    | _ => rw [hx] at hob; exact hob.elim

end
end Go.Ideal
