/- Code without loops, at one go: what it asks. Regions that draw an order are checked for it. -/
import Derived.Test.YtodeicbcacggdaaIdSe
set_option linter.unusedVariables false
set_option linter.unusedSimpArgs false
namespace Go.Ideal
open Go

def vcIts (T : Nat → TD) (G : List (Nat × PSpec)) (N : Nat) (ops : List Oper) : List Oper → List It → ISt → (List It → ISt → Prop) → Prop
  | [], acc, s, K => K acc s
  | o :: l, acc, s, K => (effOp T G N ops o s).ob ∧ vcIts T G N ops l (acc ++ [⟨o, (effOp T G N ops o s).tv, (effOp T G N ops o s).hv, o.op.operands.toList.map (opI s.tm)⟩]) (s.app (effOp T G N ops o s)) K

def freshB (x y : It) : Bool :=
  bif heapy x.o.op then (match x.o.dst with | some d => !mentTm d y.tv && !mentHp d y.hv | none => true) else true
/-- y looks at no memory, or at makes that a store of x leaves. -/
def seeB (x y : It) : Bool := see y.o.op == 0 || (see y.o.op == 1 && isStore x.o.op)
def farB (x : It) : List (Nat × Option IBlk) → It → Bool
  | [], _ => true
  | (i, _) :: l, y => (seeB x y || !IV.mentL i y.vals) && (y.hv.all fun q => !(q.1 == i)) && farB x l y
def indB (x y : It) : Bool := farB x x.hv y && farB y y.hv x && freshB x y && freshB y x
def dynOK (its : List It) : List (Nat × Nat) → Prop
  | [] => True
  | (j, i) :: l => indB (its.getD j default) (its.getD i default) = true ∧ dynOK its l

def pairsOf : List (Nat × List (Nat × Nat)) → Nat → List (Nat × Nat)
  | [], _ => []
  | (j, p) :: l, i => if j = i then p else pairsOf l i

/-- A region's pairs: each waits, or may be swapped for what is plain to see, or is among those that are looked at when it runs. -/
def pairB (ops : List Oper) (ps : List (Nat × Nat)) (j i : Nat) : Bool :=
  edge ops j i || (match ops[j]?, ops[i]? with | some x, some y => Oper.apart ⟨ops⟩ x y && ((!heapy x.op && !heapy y.op) || ps.contains (j, i)) | _, _ => false)
def statB (ops : List Oper) (ps : List (Nat × Nat)) : Bool := backB 0 ops && (List.range ops.length).all fun i => (List.range i).all fun j => pairB ops ps j i
/-- The regions of code outside its loops. -/
def statC (D : List (Nat × List (Nat × Nat))) : Code → Bool
  | .region id ops true => statB ops.toList (pairsOf D id)
  | .seq x y => statC D x && statC D y
  | .cond _ x y => statC D x && statC D y
  | .block _ c => statC D c
  | _ => true

/-- What code asks at a state. A loop is left as it stands. -/
def vc (P : Program) (F : Fr) (T : Nat → TD) (G : List (Nat × PSpec)) (H : List (Nat × HSpec)) (D : List (Nat × List (Nat × Nat))) : Code → ISt → (Exit → ISt → Prop) → Prop
  | .region _ ops false, s, Q => vcOps2 T G H F.N ops.toList ops.toList s (Q .normal)
  | .region id ops true, s, Q => match pairsOf D id with
    | [] => vcOps T G F.N ops.toList ops.toList s (Q .normal)
    | p :: ps => vcIts T G F.N ops.toList ops.toList [] s (fun its s' => dynOK its (p :: ps) ∧ Q .normal s')
  | .seq x y, s, Q => vc P F T G H D x s (seqK (fun s' => vc P F T G H D y s' Q) Q)
  | .skip, s, Q => Q .normal s
  | .ret, s, Q => Q .ret s
  | .exit i, s, Q => Q (.exit i) s
  | .block i c, s, Q => vc P F T G H D c s (blockQ i Q)
  | .cond c x y, s, Q => ∃ b, asB (opI s.tm c) = some b ∧ (b ≠ some false → vc P F T G H D x s Q) ∧ (b ≠ some true → vc P F T G H D y s Q)
  | c, s, Q => IWp P F c s Q

section
variable {P : Program} {T : Nat → TD} {G : List (Nat × PSpec)} {H : List (Nat × HSpec)} {F : Fr} {D : List (Nat × List (Nat × Nat))}

theorem tr_items {N : Nat} {ops : List Oper} : ∀ {l : List It} {s : ISt}, Tr T G N ops s l → ∀ x ∈ l, ∃ s', x = mkIt T G N ops x.o s'
  | [], _, _, x, hx => by simp at hx
  | y :: l, s, h, x, hx => by
    obtain ⟨h1, h2, h3⟩ := h
    rcases List.mem_cons.1 hx with rfl | hx
    · exact ⟨s, h2⟩
    · exact tr_items h3 x hx

theorem vcOps_tr {N : Nat} {ops : List Oper} {K : ISt → Prop} : ∀ {l : List Oper} {s : ISt}, vcOps T G N ops l s K → ∃ its, its.map It.o = l ∧ Tr T G N ops s its ∧ K (fin s its)
  | [], s, h => ⟨[], rfl, trivial, h⟩
  | o :: l, s, h => by
    obtain ⟨h1, h2⟩ := h
    obtain ⟨its, k1, k2, k3⟩ := vcOps_tr h2
    refine ⟨mkIt T G N ops o s :: its, by simp [k1]; rfl, ⟨h1, rfl, k2⟩, k3⟩

theorem vcIts_tr {N : Nat} {ops : List Oper} {K : List It → ISt → Prop} : ∀ {l : List Oper} {acc : List It} {s : ISt}, vcIts T G N ops l acc s K → ∃ its, its.map It.o = l ∧ Tr T G N ops s its ∧ K (acc ++ its) (fin s its)
  | [], acc, s, h => ⟨[], rfl, trivial, by simpa [fin, vcIts] using h⟩
  | o :: l, acc, s, h => by
    obtain ⟨h1, h2⟩ := h
    obtain ⟨its, k1, k2, k3⟩ := vcIts_tr h2
    refine ⟨mkIt T G N ops o s :: its, by simp [k1]; rfl, ⟨h1, rfl, k2⟩, ?_⟩
    have : acc ++ [(⟨o, (effOp T G N ops o s).tv, (effOp T G N ops o s).hv, o.op.operands.toList.map (opI s.tm)⟩ : It)] ++ its = acc ++ mkIt T G N ops o s :: its := by simp [mkIt]
    rw [this] at k3
    exact k3

theorem seeB_spec {x y : It} (h : seeB x y = true) : seeOK x y := by
  unfold seeB at h
  simp only [Bool.or_eq_true, Bool.and_eq_true, beq_iff_eq] at h
  exact h
theorem farB_spec {x y : It} : ∀ {l : List (Nat × Option IBlk)}, farB x l y = true → ∀ p ∈ l, (IV.mentL p.1 y.vals = false ∨ seeOK x y) ∧ ∀ q ∈ y.hv, q.1 ≠ p.1
  | [], _, p, hp => by simp at hp
  | (i, b) :: l, h, p, hp => by
    simp only [farB, Bool.and_eq_true] at h
    rcases List.mem_cons.1 hp with rfl | hp
    · refine ⟨?_, fun q hq => ?_⟩
      · have h1 := h.1.1
        cases hs : seeB x y with
        | true => exact .inr (seeB_spec hs)
        | false => rw [hs] at h1; exact .inl (by simpa using h1)
      have := List.all_eq_true.1 h.1.2 q hq
      simpa using this
    · exact farB_spec h.2 p hp

theorem freshB_spec {x y : It} (h : freshB x y = true) (hh : heapy x.o.op = true) : ∀ d, x.o.dst = some d → mentTm d y.tv = false ∧ mentHp d y.hv = false := by
  intro d hd
  unfold freshB at h
  rw [hh, hd] at h
  simpa using h

theorem dynOK_mem {its : List It} : ∀ {ps : List (Nat × Nat)}, dynOK its ps → ∀ j i, (j, i) ∈ ps → indB (its.getD j default) (its.getD i default) = true
  | [], _, j, i, h => by simp at h
  | (a, b) :: ps, hd, j, i, h => by
    obtain ⟨h1, h2⟩ := hd
    rcases List.mem_cons.1 h with e | h
    · injection e with e1 e2; subst e1 e2; exact h1
    · exact dynOK_mem h2 j i h

theorem remI_all (n : Nat) : remI n (Array.replicate n false) = List.range n := by
  unfold remI
  refine List.filter_eq_self.2 fun i hi => ?_
  have := List.mem_range.1 hi
  simp [Array.getD_eq_getD_getElem?, this]

theorem map_getD {its : List It} : (List.range its.length).map (fun i => its.getD i default) = its := by
  apply List.ext_getElem
  · simp
  · intro i h1 h2
    simp [h2]

theorem iwp_draw (hT : TOK P T) (hm : P.follows .mixedOrders = true) (hG : GOK P G) {id : Nat} {ops : List Oper} {ps : List (Nat × Nat)} (hs : statB ops ps = true) {s : ISt} {Q : Exit → ISt → Prop} {its : List It} (h1 : its.map It.o = ops) (h2 : Tr T G F.N ops s its)
    (h3 : dynOK its ps) (h4 : Q .normal (fin s its)) : IWp P F (.region id ⟨ops⟩ true) s Q := by
  intro μ κ a w R
  refine wp_region_any hm ?_
  have hlen : its.length = ops.length := by rw [← h1]; simp
  have hsz : (⟨ops⟩ : Array Oper).size = ops.length := rfl
  unfold statB at hs
  simp only [Bool.and_eq_true] at hs
  have hrem : (remI ops.length (Array.replicate (⟨ops⟩ : Array Oper).size false)).map (fun i => its.getD i default) = its := by
    rw [hsz, remI_all, ← hlen, map_getD]
  refine wpAny_tr hT hG (it := fun i => its.getD i default) ?_ hs.1 ?_ _ _ s ?_ (by rw [hrem]; exact h2) (by rw [hrem]; exact fun s' hs' μ κ a w R => ⟨μ, κ, _, R.eqv hs', h4⟩) μ κ a _ R.drawn
  · intro i o hi
    rw [← h1] at hi
    simp only [List.getElem?_map] at hi
    cases hx : its[i]? with
    | none => rw [hx] at hi; simp at hi
    | some x => rw [hx] at hi; simp at hi; simp [List.getD, hx, hi]
  · intro j i hji hi
    have hp := List.all_eq_true.1 (List.all_eq_true.1 hs.2 i (List.mem_range.2 hi)) j (List.mem_range.2 hji)
    unfold pairB at hp
    cases he : edge ops j i with
    | true => exact .inl rfl
    | false =>
      right
      have hj : j < ops.length := by omega
      rw [he, List.getElem?_eq_getElem hi, List.getElem?_eq_getElem hj] at hp
      simp only [Bool.false_or, Bool.and_eq_true] at hp
      obtain ⟨ha, hr⟩ := hp
      have hij : i < its.length := by omega
      have hjj : j < its.length := by omega
      have ei : its.getD i default = its[i] := by simp [List.getD, hij]
      have ej : its.getD j default = its[j] := by simp [List.getD, hjj]
      have oi : (its[i]).o = ops[i] := by
        have : (its.map It.o)[i]'(by simpa using hij) = its[i].o := by simp
        rw [← this]; congr 1
      have oj : (its[j]).o = ops[j] := by
        have : (its.map It.o)[j]'(by simpa using hjj) = its[j].o := by simp
        rw [← this]; congr 1
      show Indep ops (its.getD j default) (its.getD i default)
      by_cases hst : heapy ops[j].op = false ∧ heapy ops[i].op = false
      · obtain ⟨q1, q2⟩ := hst
        have emp : ∀ x ∈ its, heapy x.o.op = false → x.hv = [] := by
          intro x hx hh
          obtain ⟨s', hs'⟩ := tr_items h2 x hx
          rw [hs']
          exact effOp_still hh
        have vj := emp its[j] (List.getElem_mem hjj) (by rw [oj]; exact q1)
        have vi := emp its[i] (List.getElem_mem hij) (by rw [oi]; exact q2)
        rw [ei, ej]
        refine ⟨by rw [oi, oj]; exact ha, by rw [vj]; simp, by rw [vi]; simp, fun hh => ?_, fun hh => ?_⟩
        · rw [oj, q1] at hh; cases hh
        · rw [oi, q2] at hh; cases hh
      · have hmem : (j, i) ∈ ps := by
          rcases (Bool.or_eq_true _ _).mp hr with h | h
          · exact absurd (by simpa using h) hst
          · simpa using h
        have hd := dynOK_mem h3 j i hmem
        rw [ei, ej] at hd ⊢
        unfold indB at hd
        simp only [Bool.and_eq_true] at hd
        obtain ⟨⟨⟨d1, d2⟩, d3⟩, d4⟩ := hd
        exact ⟨by rw [oi, oj]; exact ha, farB_spec d1, fun p hp => (farB_spec d2 p hp).1, freshB_spec d3, freshB_spec d4⟩
  · rw [hsz, remI_all]
    simp


theorem vc_sound (hT : TOK P T) (hm : P.follows .mixedOrders = true) (hG : GOK P G) (hH : HOK P H) : ∀ (c : Code) (s : ISt) (Q : Exit → ISt → Prop), statC D c = true → vc P F T G H D c s Q → IWp P F c s Q
  | .region id ops false, s, Q, _, h => iwp_region2 hT hG hH h
  | .region id ops true, s, Q, hs, h => by
    have e : ops = ⟨ops.toList⟩ := by simp
    simp only [statC] at hs
    simp only [vc] at h
    cases hp : pairsOf D id with
    | nil =>
      rw [hp] at h hs
      obtain ⟨its, h1, h2, h3⟩ := vcOps_tr h
      rw [e]
      exact iwp_draw hT hm hG hs h1 h2 trivial h3
    | cons p ps =>
      rw [hp] at h hs
      obtain ⟨its, h1, h2, h3, h4⟩ := vcIts_tr h
      rw [e]
      exact iwp_draw hT hm hG hs h1 h2 (by simpa using h3) h4
  | .seq x y, s, Q, hs, h => by
    simp only [statC, Bool.and_eq_true] at hs
    refine iwp_seq (iwp_mono (vc_sound hT hm hG hH x s _ hs.1 h) ?_)
    intro e s' hq
    cases e with
    | normal => exact vc_sound hT hm hG hH y s' Q hs.2 hq
    | _ => exact hq
  | .skip, s, Q, _, h => iwp_skip h
  | .ret, s, Q, _, h => iwp_ret h
  | .exit i, s, Q, _, h => iwp_exit h
  | .block i c, s, Q, hs, h => by
    simp only [statC] at hs
    exact iwp_block (vc_sound hT hm hG hH c s _ hs h)
  | .cond c x y, s, Q, hs, h => by
    simp only [statC, Bool.and_eq_true] at hs
    obtain ⟨b, hb, hx, hy⟩ := h
    cases b with
    | none => exact iwp_cond_any (asB_none hb) (vc_sound hT hm hG hH x s Q hs.1 (hx (by simp))) (vc_sound hT hm hG hH y s Q hs.2 (hy (by simp)))
    | some b => exact iwp_cond (asB_some hb) (fun e => vc_sound hT hm hG hH x s Q hs.1 (hx (by simp [e]))) (fun e => vc_sound hT hm hG hH y s Q hs.2 (hy (by simp [e])))
  | .loop c, s, Q, _, h => h
  | .rangeFunc _ _ _ _, s, Q, _, h => h
  | .goto l, s, Q, _, h => h
  | .scope _, s, Q, _, h => h
  | .label _, s, Q, _, h => h
  | .refuse _, s, Q, _, h => h

end
end Go.Ideal
