/- Regions in any order: a run in the text's order, and that it may be shuffled. -/
import Derived.Test.YtodeicbcacggdaaIdQ
set_option linter.unusedVariables false
set_option linter.unusedSimpArgs false
namespace Go.Ideal
open Go

/-- One operation of a run: what it did and what it looked at. -/
structure It where
  o : Oper
  tv : List (Nat × IV)
  hv : List (Nat × Option IBlk)
  vals : List IV
  deriving Inhabited

def It.app (x : It) (s : ISt) : ISt := ⟨x.tv ++ s.tm, x.hv ++ s.hp⟩
def mkIt (T : Nat → TD) (G : List (Nat × PSpec)) (N : Nat) (ops : List Oper) (o : Oper) (s : ISt) : It :=
  ⟨o, (effOp T G N ops o s).tv, (effOp T G N ops o s).hv, o.op.operands.toList.map (opI s.tm)⟩

def Tr (T : Nat → TD) (G : List (Nat × PSpec)) (N : Nat) (ops : List Oper) : ISt → List It → Prop
  | _, [] => True
  | s, x :: l => (effOp T G N ops x.o s).ob ∧ x = mkIt T G N ops x.o s ∧ Tr T G N ops (x.app s) l
def fin : ISt → List It → ISt
  | s, [] => s
  | s, x :: l => fin (x.app s) l

structure Eqv (s s' : ISt) : Prop where
  t : ∀ i, lkT s'.tm i = lkT s.tm i
  h : ∀ i, lkH s'.hp i = lkH s.hp i
  mt : ∀ d, mentTm d s'.tm = mentTm d s.tm
  mh : ∀ d, mentHp d s'.hp = mentHp d s.hp

theorem Eqv.refl (s : ISt) : Eqv s s := ⟨fun _ => rfl, fun _ => rfl, fun _ => rfl, fun _ => rfl⟩
theorem Eqv.trans {a b c : ISt} (h : Eqv a b) (k : Eqv b c) : Eqv a c :=
  ⟨fun i => (k.t i).trans (h.t i), fun i => (k.h i).trans (h.h i), fun i => (k.mt i).trans (h.mt i), fun i => (k.mh i).trans (h.mh i)⟩

theorem lkT_app {b b' : List (Nat × IV)} {i : Nat} (h : lkT b' i = lkT b i) : ∀ a : List (Nat × IV), lkT (a ++ b') i = lkT (a ++ b) i
  | [] => h
  | (j, v) :: a => by simp only [List.cons_append, lkT]; rw [lkT_app h a]
theorem lkH_app {b b' : List (Nat × Option IBlk)} {i : Nat} (h : lkH b' i = lkH b i) : ∀ a : List (Nat × Option IBlk), lkH (a ++ b') i = lkH (a ++ b) i
  | [] => h
  | (j, v) :: a => by simp only [List.cons_append, lkH]; rw [lkH_app h a]
theorem lkT_skip {b : List (Nat × IV)} {i : Nat} : ∀ {a : List (Nat × IV)}, (∀ p ∈ a, p.1 ≠ i) → lkT (a ++ b) i = lkT b i
  | [], _ => rfl
  | (j, v) :: a, h => by
    simp only [List.cons_append, lkT]
    rw [if_neg (h (j, v) (by simp)), lkT_skip (fun p hp => h p (by simp [hp]))]
theorem lkH_skip {b : List (Nat × Option IBlk)} {i : Nat} : ∀ {a : List (Nat × Option IBlk)}, (∀ p ∈ a, p.1 ≠ i) → lkH (a ++ b) i = lkH b i
  | [], _ => rfl
  | (j, v) :: a, h => by
    simp only [List.cons_append, lkH]
    rw [if_neg (h (j, v) (by simp)), lkH_skip (fun p hp => h p (by simp [hp]))]
theorem mentTm_app {d : Nat} {b : List (Nat × IV)} : ∀ a : List (Nat × IV), mentTm d (a ++ b) = (mentTm d a || mentTm d b)
  | [] => by simp [mentTm]
  | (j, v) :: a => by simp only [List.cons_append, mentTm, mentTm_app a, Bool.or_assoc]
theorem mentHp_app {d : Nat} {b : List (Nat × Option IBlk)} : ∀ a : List (Nat × Option IBlk), mentHp d (a ++ b) = (mentHp d a || mentHp d b)
  | [] => by simp [mentHp]
  | (j, none) :: a => by simp only [List.cons_append, mentHp, mentHp_app a]
  | (j, some (.box _ c)) :: a => by simp only [List.cons_append, mentHp, mentHp_app a, Bool.or_assoc]
  | (j, some (.arr _ _ _)) :: a => by simp only [List.cons_append, mentHp, mentHp_app a]

theorem Eqv.app {s s' : ISt} (h : Eqv s s') (x : It) : Eqv (x.app s) (x.app s') :=
  ⟨fun i => lkT_app (h.t i) _, fun i => lkH_app (h.h i) _, fun d => by simp only [It.app, mentTm_app, h.mt], fun d => by simp only [It.app, mentHp_app, h.mh]⟩

section
variable {T : Nat → TD} {G : List (Nat × PSpec)} {N : Nat} {ops : List Oper}

theorem opI_of {tm tm' : List (Nat × IV)} {x : Operand} (h : ∀ t, x = .tmp t → lkT tm' t = lkT tm t) : opI tm' x = opI tm x := by
  cases x <;> simp only [opI]
  exact h _ rfl

theorem gval_of {tm tm' : List (Nat × IV)} {o : Oper} (h : ∀ j want d, o.guard = some (j, want) → (ops[j]?).bind (·.dst) = some d → lkT tm' d = lkT tm d) : gval tm' ops o = gval tm ops o := by
  unfold gval
  cases hg : o.guard with
  | none => rfl
  | some p =>
    obtain ⟨j, want⟩ := p
    simp only []
    cases hd : (ops[j]?).bind (·.dst) with
    | none => rfl
    | some d => simp only []; rw [h j want d hg hd]

theorem Eqv.near {s s' : ISt} (h : Eqv s s') (o : Oper) : Near ops o s s' :=
  ⟨fun x _ => opI_of fun t _ => h.t t, fun x _ id _ => ⟨fun _ => h.h id, fun _ => by rw [h.h id]⟩, gval_of fun _ _ d _ _ => h.t d, fun _ d _ => ⟨fun e => (h.mt d).trans e, fun e => (h.mh d).trans e⟩⟩

theorem mkIt_near {o : Oper} {s s' : ISt} (H : Near ops o s s') : mkIt T G N ops o s' = mkIt T G N ops o s := by
  obtain ⟨h1, h2, _⟩ := effOp_near (T := T) (G := G) (N := N) H
  unfold mkIt
  rw [h1, h2, map_same H.g]

theorem tr_eqv : ∀ {l : List It} {s s' : ISt}, Eqv s s' → Tr T G N ops s l → Tr T G N ops s' l ∧ Eqv (fin s l) (fin s' l)
  | [], s, s', h, _ => ⟨trivial, h⟩
  | x :: l, s, s', h, ht => by
    obtain ⟨h1, h2, h3⟩ := ht
    obtain ⟨_, _, ho⟩ := effOp_near (T := T) (G := G) (N := N) (h.near (ops := ops) x.o)
    obtain ⟨k1, k2⟩ := tr_eqv (h.app x) h3
    exact ⟨⟨ho h1, by rw [mkIt_near (h.near x.o)]; exact h2, k1⟩, k2⟩

theorem setD_keys {o : Oper} {v : IV} : ∀ p ∈ setD o v, o.dst = some p.1 := by
  intro p hp
  unfold setD at hp
  cases hd : o.dst with
  | none => rw [hd] at hp; simp at hp
  | some d => rw [hd] at hp; simp at hp; rw [hp]
theorem effNew_keys {o : Oper} {s : ISt} {b : IBlk} {v : Nat → IV} {p : Prop} : ∀ q ∈ (effNew N ops o s b v p).tv, o.dst = some q.1 := by
  unfold effNew
  split
  · rename_i d hd
    cases (gval s.tm ops o).1 with
    | false => exact setD_keys
    | true => intro q hq; simp at hq; rw [hd, hq]
  · simp

theorem effOp_keys (o : Oper) (s : ISt) : ∀ q ∈ (effOp T G N ops o s).tv, o.dst = some q.1 := by
  unfold effOp
  split
  · exact setD_keys
  · exact effNew_keys
  · exact effNew_keys
  · exact effNew_keys
  · unfold effMake; split
    · exact effNew_keys
    · simp
  · unfold effStore
    cases (gval s.tm ops o).1 <;> simp
  · split
    · split
      · unfold effAppend
        split
        · simp
        · rename_i d hd
          cases (gval s.tm ops o).1 with
          | false => exact setD_keys
          | true =>
            simp only [cond_true]
            split
            · split
              · intro q hq; simp at hq; rw [hd, hq]
              · simp
            · intro q hq; simp at hq; rw [hd, hq]
            · simp
      · unfold effZeros; split
        · exact effNew_keys
        · simp
    · simp [badE]
  · split
    · unfold effClear
      cases (gval s.tm ops o).1 with
      | false => simp
      | true =>
        simp only [cond_true]
        split
        · split <;> simp
        · simp
    · simp [badE]
  · unfold effCall; exact setD_keys
  · unfold effPure; exact setD_keys

theorem effOp_still {o : Oper} {s : ISt} (h : heapy o.op = false) : (effOp T G N ops o s).hv = [] := by
  unfold effOp
  split
  · rfl
  · rename_i ho; rw [ho] at h; simp [heapy] at h
  · rename_i ho; rw [ho] at h; simp [heapy] at h
  · rename_i ho; rw [ho] at h; simp [heapy] at h
  · rename_i ho; rw [ho] at h; simp [heapy] at h
  · rename_i ho; rw [ho] at h; simp [heapy] at h
  · rename_i ho; rw [ho] at h; simp [heapy] at h
  · rename_i ho; rw [ho] at h; simp [heapy] at h
  · rename_i ho; rw [ho] at h; simp [heapy] at h
  · rfl

/-- What x writes, y does not look at: it looks at no memory, or at the make of blocks alone, which a store leaves. -/
def seeOK (x y : It) : Prop := see y.o.op = 0 ∨ (see y.o.op = 1 ∧ isStore x.o.op = true)

theorem storeV_kind {h : Nat → Option IBlk} {t : TypeId} {x p : IV} (hp : (storeV T h t x p).2) : (h (storeV T h t x p).1.1).map kindB = some (kindB (storeV T h t x p).1.2) := by
  unfold storeV at hp ⊢
  split at hp
  · rename_i id off
    split at hp
    · rename_i ty cells hb
      rw [hb]
      rfl
    · exact hp.elim
  · rename_i id i off
    split at hp
    · rename_i k ty es hb
      by_cases h1 : off = 0 ∧ (T t).size = k
      · rw [if_pos h1] at hp ⊢
        rw [hb]
        rfl
      · rw [if_neg h1] at hp ⊢
        split at hp
        · rename_i l he
          rw [hb]
          rfl
        · exact hp.elim
    · exact hp.elim
  · exact hp.elim

/-- A store leaves the makes of blocks. -/
theorem store_kind {o : Oper} {s : ISt} (h : isStore o.op = true) : ∀ p ∈ (effOp T G N ops o s).hv, ∃ b, p.2 = some b ∧ ((effOp T G N ops o s).ob → (lkH s.hp p.1).map kindB = some (kindB b)) := by
  unfold isStore at h
  split at h
  · rename_i t q x ho
    intro p hp
    unfold effOp at hp ⊢
    rw [ho] at hp ⊢
    simp only at hp ⊢
    unfold effStore at hp ⊢
    cases hG : (gval s.tm ops o).1 with
    | false => rw [hG] at hp; simp at hp
    | true =>
      rw [hG] at hp
      simp only [cond_true, List.mem_singleton] at hp ⊢
      subst hp
      refine ⟨_, rfl, fun hob => ?_⟩
      exact storeV_kind hob.2.2.2.2
  · cases h

/-- Two operations of a run that may change places. -/
structure Indep (ops : List Oper) (x y : It) : Prop where
  ap : Oper.apart ⟨ops⟩ x.o y.o = true
  xy : ∀ p ∈ x.hv, (IV.mentL p.1 y.vals = false ∨ seeOK x y) ∧ ∀ q ∈ y.hv, q.1 ≠ p.1
  yx : ∀ p ∈ y.hv, IV.mentL p.1 x.vals = false ∨ seeOK y x
  fx : heapy x.o.op = true → ∀ d, x.o.dst = some d → mentTm d y.tv = false ∧ mentHp d y.hv = false
  fy : heapy y.o.op = true → ∀ d, y.o.dst = some d → mentTm d x.tv = false ∧ mentHp d x.hv = false

theorem looks_op {o : Oper} {t : Nat} (h : Operand.tmp t ∈ o.op.operands.toList) : t ∈ o.looksAt ⟨ops⟩ := by
  unfold Oper.looksAt
  refine List.mem_append.2 (.inl (List.mem_filterMap.2 ⟨_, h, rfl⟩))
theorem looks_guard {o : Oper} {j : Nat} {want : Bool} {d : Nat} (h : o.guard = some (j, want)) (hd : (ops[j]?).bind (·.dst) = some d) : d ∈ o.looksAt ⟨ops⟩ := by
  unfold Oper.looksAt
  refine List.mem_append.2 (.inr ?_)
  have e : ((⟨ops⟩ : Array Oper)[j]?).bind (·.dst) = some d := by simpa using hd
  simp only [h, e]
  simp

/-- What may lie between an operation and what was written: it names it not, or looks at no memory, or at makes that were left. -/
def farP (o : Oper) (vals : List IV) (h : Nat → Option IBlk) (p : Nat × Option IBlk) : Prop :=
  IV.mentL p.1 vals = false ∨ see o.op = 0 ∨ (see o.op = 1 ∧ ∃ b, p.2 = some b ∧ (h p.1).map kindB = some (kindB b))

theorem lkH_kind {b : List (Nat × Option IBlk)} {i : Nat} : ∀ {a : List (Nat × Option IBlk)}, (∀ p ∈ a, p.1 = i → p.2.map kindB = (lkH b i).map kindB) → (lkH (a ++ b) i).map kindB = (lkH b i).map kindB
  | [], _ => rfl
  | (j, v) :: a, h => by
    simp only [List.cons_append, lkH]
    by_cases e : j = i
    · rw [if_pos e]; exact h (j, v) (by simp) e
    · rw [if_neg e]; exact lkH_kind fun p hp => h p (by simp [hp])

theorem far_look {o : Oper} {x : It} {s : ISt} {vals : List IV} (hv : ∀ p ∈ x.hv, farP o vals (lkH s.hp) p) {id : Nat} (hm : IV.mentL id vals = true) :
    (see o.op = 2 → lkH (x.app s).hp id = lkH s.hp id) ∧ (see o.op = 1 → (lkH (x.app s).hp id).map kindB = (lkH s.hp id).map kindB) := by
  refine ⟨fun h2 => lkH_skip fun p hp e => ?_, fun h1 => lkH_kind fun p hp e => ?_⟩
  · rcases hv p hp with h | h | ⟨h, _⟩
    · rw [e, hm] at h; cases h
    · rw [h] at h2; cases h2
    · rw [h] at h2; cases h2
  · rcases hv p hp with h | h | ⟨_, b, hb, hk⟩
    · rw [e, hm] at h; cases h
    · rw [h] at h1; cases h1
    · rw [hb, ← e, hk]; rfl

theorem near_of {o : Oper} {x : It} {s : ISt} (hx : ∀ q ∈ x.tv, q.1 ∉ o.looksAt ⟨ops⟩) (hv : ∀ p ∈ x.hv, farP o (o.op.operands.toList.map (opI s.tm)) (lkH s.hp) p)
    (hf : heapy o.op = true → ∀ d, o.dst = some d → mentTm d x.tv = false ∧ mentHp d x.hv = false) : Near ops o s (x.app s) := by
  refine ⟨fun z hz => opI_of fun t ht => lkT_skip fun q hq e => hx q hq (e ▸ looks_op (ht ▸ hz)), fun z hz id hid => far_look hv (mentL_mem (List.mem_map.2 ⟨z, hz, rfl⟩) hid),
    gval_of fun j want d hg hd => lkT_skip fun q hq e => hx q hq (e ▸ looks_guard hg hd), fun hh d hd => ⟨fun e => ?_, fun e => ?_⟩⟩
  · simp only [It.app, mentTm_app, (hf hh d hd).1, e, Bool.or_false]
  · simp only [It.app, mentHp_app, (hf hh d hd).2, e, Bool.or_false]

theorem near_back {o : Oper} {x : It} {s : ISt} (hx : ∀ q ∈ x.tv, q.1 ∉ o.looksAt ⟨ops⟩) (hv : ∀ p ∈ x.hv, farP o (o.op.operands.toList.map (opI (x.app s).tm)) (lkH s.hp) p) : Near ops o (x.app s) s := by
  have hsk : ∀ z ∈ o.op.operands.toList, opI (x.app s).tm z = opI s.tm z := fun z hz => opI_of fun t ht => lkT_skip fun q hq e => hx q hq (e ▸ looks_op (ht ▸ hz))
  refine ⟨fun z hz => (hsk z hz).symm, fun z hz id hid => ?_,
    (gval_of fun j want d hg hd => lkT_skip fun q hq e => hx q hq (e ▸ looks_guard hg hd)).symm, fun hh d hd => ⟨fun e => ?_, fun e => ?_⟩⟩
  · obtain ⟨h1, h2⟩ := far_look hv (mentL_mem (List.mem_map.2 ⟨z, hz, rfl⟩) hid)
    exact ⟨fun h => (h1 h).symm, fun h => (h2 h).symm⟩
  · simp only [It.app, mentTm_app, Bool.or_eq_false_iff] at e; exact e.2
  · simp only [It.app, mentHp_app, Bool.or_eq_false_iff] at e; exact e.2

theorem tr_swap {x y : It} {l : List It} {s : ISt} (h : Tr T G N ops s (x :: y :: l)) (hI : Indep ops x y) : Tr T G N ops s (y :: x :: l) ∧ Eqv (fin s (x :: y :: l)) (fin s (y :: x :: l)) := by
  obtain ⟨hx1, hx2, hy1, hy2, hl⟩ := h
  obtain ⟨a1, a2, a3⟩ := Oper.apart_spec hI.ap
  have kx : ∀ q ∈ x.tv, x.o.dst = some q.1 := by intro q hq; rw [hx2] at hq ⊢; exact effOp_keys _ _ q hq
  have ky : ∀ q ∈ y.tv, y.o.dst = some q.1 := by intro q hq; rw [hy2] at hq ⊢; exact effOp_keys _ _ q hq
  have ey : y.vals = y.o.op.operands.toList.map (opI (x.app s).tm) := congrArg It.vals hy2
  have ex : x.vals = x.o.op.operands.toList.map (opI s.tm) := congrArg It.vals hx2
  have fxs : ∀ p ∈ x.hv, farP y.o (y.o.op.operands.toList.map (opI (x.app s).tm)) (lkH s.hp) p := by
    intro p hp
    rw [← ey]
    rcases (hI.xy p hp).1 with h | h | ⟨h, hst⟩
    · exact .inl h
    · exact .inr (.inl h)
    · refine .inr (.inr ⟨h, ?_⟩)
      have hp' := hp
      rw [hx2] at hp'
      obtain ⟨b, hb, hk⟩ := store_kind hst p hp'
      exact ⟨b, hb, hk hx1⟩
  have fys : ∀ p ∈ y.hv, farP x.o (x.o.op.operands.toList.map (opI s.tm)) (lkH s.hp) p := by
    intro p hp
    rw [← ex]
    rcases hI.yx p hp with h | h | ⟨h, hst⟩
    · exact .inl h
    · exact .inr (.inl h)
    · refine .inr (.inr ⟨h, ?_⟩)
      have hp' := hp
      rw [hy2] at hp'
      obtain ⟨b, hb, hk⟩ := store_kind hst p hp'
      refine ⟨b, hb, ?_⟩
      have e : lkH (x.app s).hp p.1 = lkH s.hp p.1 := lkH_skip fun q hq e => (hI.xy q hq).2 p hp e.symm
      rw [← e]
      exact hk hy1
  have n1 : Near ops y.o (x.app s) s := near_back (fun q hq => a1 _ (kx q hq)) fxs
  have n2 : Near ops x.o s (y.app s) := near_of (fun q hq => a3 _ (ky q hq)) fys hI.fx
  have heq : Eqv (y.app (x.app s)) (x.app (y.app s)) := by
    have hdis : ∀ p ∈ x.tv, ∀ q ∈ y.tv, q.1 ≠ p.1 := fun p hp q hq e => a2 p.1 (kx p hp) (e ▸ ky q hq)
    refine ⟨fun i => ?_, fun i => ?_, fun d => ?_, fun d => ?_⟩
    · by_cases hi : ∀ p ∈ x.tv, p.1 ≠ i
      · show lkT (x.tv ++ (y.tv ++ s.tm)) i = lkT (y.tv ++ (x.tv ++ s.tm)) i
        rw [lkT_skip hi]
        exact (lkT_app (lkT_skip hi) _).symm
      · have hi' : ∀ q ∈ y.tv, q.1 ≠ i := by
          intro q hq e
          refine hi fun p hp e' => hdis p hp q hq (e.trans e'.symm)
        show lkT (x.tv ++ (y.tv ++ s.tm)) i = lkT (y.tv ++ (x.tv ++ s.tm)) i
        rw [lkT_skip (b := x.tv ++ s.tm) hi']
        exact lkT_app (lkT_skip hi') _
    · by_cases hi : ∀ p ∈ x.hv, p.1 ≠ i
      · show lkH (x.hv ++ (y.hv ++ s.hp)) i = lkH (y.hv ++ (x.hv ++ s.hp)) i
        rw [lkH_skip hi]
        exact (lkH_app (lkH_skip hi) _).symm
      · have hi' : ∀ q ∈ y.hv, q.1 ≠ i := by
          intro q hq e
          refine hi fun p hp e' => (hI.xy p hp).2 q hq (e.trans e'.symm)
        show lkH (x.hv ++ (y.hv ++ s.hp)) i = lkH (y.hv ++ (x.hv ++ s.hp)) i
        rw [lkH_skip (b := x.hv ++ s.hp) hi']
        exact lkH_app (lkH_skip hi') _
    · simp only [It.app, mentTm_app]; cases mentTm d x.tv <;> cases mentTm d y.tv <;> rfl
    · simp only [It.app, mentHp_app]; cases mentHp d x.hv <;> cases mentHp d y.hv <;> rfl
  obtain ⟨k1, k2⟩ := tr_eqv heq hl
  obtain ⟨_, _, o1⟩ := effOp_near (T := T) (G := G) (N := N) n1
  obtain ⟨_, _, o2⟩ := effOp_near (T := T) (G := G) (N := N) n2
  exact ⟨⟨o1 hy1, by rw [mkIt_near n1]; exact hy2, o2 hx1, by rw [mkIt_near n2]; exact hx2, k1⟩, k2⟩

theorem tr_move {x : It} {l2 : List It} : ∀ {l1 : List It} {s : ISt}, Tr T G N ops s (l1 ++ x :: l2) → (∀ y ∈ l1, Indep ops y x) → Tr T G N ops s (x :: (l1 ++ l2)) ∧ Eqv (fin s (l1 ++ x :: l2)) (fin s (x :: (l1 ++ l2)))
  | [], s, h, _ => ⟨h, .refl _⟩
  | y :: l1, s, h, hI => by
    obtain ⟨h1, h2, h3⟩ := h
    obtain ⟨k1, k2⟩ := tr_move (l1 := l1) h3 (fun z hz => hI z (by simp [hz]))
    obtain ⟨j1, j2⟩ := tr_swap (x := y) (y := x) (l := l1 ++ l2) (s := s) ⟨h1, h2, k1⟩ (hI y (by simp))
    exact ⟨j1, k2.trans j2⟩

end
end Go.Ideal
