/- What an operation looks at: the same there, the same effect. -/
import Derived.Test.YtodeicbcacggdaaIdP
set_option linter.unusedVariables false
set_option linter.unusedSimpArgs false
namespace Go.Ideal
open Go

section
variable {T : Nat → TD} {G : List (Nat × PSpec)} {N : Nat} {ops : List Oper} {o : Oper}

theorem loadV_congr {h h' : Nat → Option IBlk} {t : TypeId} {x : IV} (hh : ∀ id, x.ment id = true → h' id = h id) : loadV T h' t x = loadV T h t x := by
  cases x <;> simp only [loadV]
  · rw [hh _ (by simp [IV.ment])]
  · rw [hh _ (by simp [IV.ment])]
theorem faddrV_congr {h h' : Nat → Option IBlk} {t : TypeId} {f : Nat} {x : IV} (hh : ∀ id, x.ment id = true → h' id = h id) : faddrV T h' t f x = faddrV T h t f x := by
  cases x <;> simp only [faddrV]
  · rw [hh _ (by simp [IV.ment])]
  · rw [hh _ (by simp [IV.ment])]
theorem iaddrV_congr {h h' : Nat → Option IBlk} {t : TypeId} {x y : IV} (hh : ∀ id, x.ment id = true → h' id = h id) : iaddrV T h' t x y = iaddrV T h t x y := by
  cases x <;> cases y <;> simp only [iaddrV]
  rw [hh _ (by simp [IV.ment])]
theorem lenV_congr {h h' : Nat → Option IBlk} {t : TypeId} {x : IV} (hh : ∀ id, x.ment id = true → h' id = h id) : lenV T h' t x = lenV T h t x := by
  cases x <;> simp only [lenV]
theorem sliceV_congr {h h' : Nat → Option IBlk} {t : TypeId} {x : IV} {lo hi mx : Option IV} (hh : ∀ id, x.ment id = true → h' id = h id) : sliceV T h' t x lo hi mx = sliceV T h t x lo hi mx := by
  cases x with
  | ref id off n full =>
    have e := hh id (by simp [IV.ment])
    rcases lo with _ | lo <;> rcases hi with _ | hi <;> rcases mx with _ | mx <;> (try rfl) <;> (try cases lo) <;> (try rfl) <;> (try cases hi) <;> (try rfl) <;> (try cases mx) <;> (try rfl) <;> simp only [sliceV, e]
  | _ => rcases lo with _ | lo <;> rcases hi with _ | hi <;> rcases mx with _ | mx <;> (try rfl) <;> (try cases lo) <;> (try rfl) <;> (try cases hi) <;> (try rfl) <;> (try cases mx) <;> rfl
theorem srcV_congr {h h' : Nat → Option IBlk} {k : Nat} {x : IV} (hh : ∀ id, x.ment id = true → h' id = h id) : srcV h' k x = srcV h k x := by
  cases x <;> simp only [srcV]
  rw [hh _ (by simp [IV.ment])]
theorem storeV_congr {h h' : Nat → Option IBlk} {t : TypeId} {x p : IV} (hh : ∀ id, p.ment id = true → h' id = h id) : storeV T h' t x p = storeV T h t x p := by
  cases p <;> simp only [storeV]
  · rw [hh _ (by simp [IV.ment])]
  · rw [hh _ (by simp [IV.ment])]
theorem lendP_congr {h h' : Nat → Option IBlk} {x : IV} (hh : ∀ id, x.ment id = true → h' id = h id) : lendP h' x = lendP h x := by
  cases x <;> simp only [lendP]
  · rw [hh _ (by simp [IV.ment])]
  · rw [hh _ (by simp [IV.ment])]
theorem lentP_congr {h h' : Nat → Option IBlk} {x : IV} (hh : ∀ id, x.ment id = true → h' id = h id) : lentP h' x = lentP h x := by
  cases x <;> simp only [lentP]
  rw [hh _ (by simp [IV.ment])]
theorem lendPs_congr {h h' : Nat → Option IBlk} : ∀ {l : List IV}, (∀ id, IV.mentL id l = true → h' id = h id) → l.map (lendP h') = l.map (lendP h) ∧ lentPs h' l = lentPs h l
  | [], _ => ⟨rfl, rfl⟩
  | x :: l, hh => by
    obtain ⟨e1, e2⟩ := lendPs_congr (l := l) (fun id hi => hh id (by simp [IV.mentL, hi]))
    simp only [List.map_cons, lentPs]
    rw [e1, e2, lendP_congr (fun id hi => hh id (by simp [IV.mentL, hi])), lentP_congr (fun id hi => hh id (by simp [IV.mentL, hi]))]
    exact ⟨rfl, rfl⟩
theorem lendV_congr {h h' : Nat → Option IBlk} {x : IV} (hh : ∀ id, x.ment id = true → h' id = h id) : lendV h' x = lendV h x := by
  cases x with
  | clo g caps => simp only [lendV]; rw [(lendPs_congr (fun id hi => hh id (by simpa [IV.ment] using hi))).1]
  | _ => exact lendP_congr hh
theorem lent_congr {h h' : Nat → Option IBlk} {x : IV} (hh : ∀ id, x.ment id = true → h' id = h id) : lent h' x = lent h x := by
  cases x with
  | clo g caps => simp only [lent]; rw [(lendPs_congr (fun id hi => hh id (by simpa [IV.ment] using hi))).2]
  | _ => exact lentP_congr hh

/-- A block's make: a variable, or a row of elements of k cells. -/
def kindB : IBlk → Option Nat
  | .box _ _ => none
  | .arr k _ _ => some k
/-- How much of memory an operation looks at: none; the make of the blocks that its operands name; all. -/
def see : Op → Nat
  | .move _ => 0
  | .assign _ => 0
  | .binOp _ _ _ _ _ => 0
  | .unOp _ _ _ => 0
  | .convert _ _ _ => 0
  | .field _ _ _ => 0
  | .extract _ _ => 0
  | .build _ _ => 0
  | .pick _ _ _ => 0
  | .fieldAddr _ _ _ => 1
  | .indexAddr _ _ _ => 1
  | .slice _ _ _ _ _ => 1
  | .nilCheck _ => 1
  | .call { callee := .builtin .len, .. } => 0
  | _ => 2
def isStore : Op → Bool
  | .store _ _ _ => true
  | _ => false

theorem shape_kind {b b' : Option IBlk} (h : b'.map kindB = b.map kindB) : b'.map IBlk.shape = b.map IBlk.shape := by
  have key : ∀ x : IBlk, x.shape = (kindB x).getD 0 := fun x => by cases x <;> rfl
  cases b <;> cases b' <;> simp at h ⊢
  rw [key, key, h]
theorem arr_kind {b b' : Option IBlk} (h : b'.map kindB = b.map kindB) : (∃ k ty es, b' = some (.arr k ty es)) ↔ ∃ k ty es, b = some (.arr k ty es) := by
  have key : ∀ {x y : Option IBlk}, x.map kindB = y.map kindB → (∃ k ty es, y = some (.arr k ty es)) → ∃ k ty es, x = some (.arr k ty es) := by
    rintro x y h ⟨k, ty, es, rfl⟩
    cases x with
    | none => simp at h
    | some x =>
      cases x with
      | box ty cells => simp [kindB] at h
      | arr k ty es => exact ⟨_, _, _, rfl⟩
  exact ⟨key h.symm, key h⟩
theorem kind_cases {b b' : Option IBlk} (h : b'.map kindB = b.map kindB) : (b = none ∧ b' = none) ∨ (∃ t c t' c', b = some (.box t c) ∧ b' = some (.box t' c')) ∨ ∃ k t e t' e', b = some (.arr k t e) ∧ b' = some (.arr k t' e') := by
  cases b with
  | none => cases b' with
    | none => exact .inl ⟨rfl, rfl⟩
    | some y => simp at h
  | some x => cases b' with
    | none => simp at h
    | some y =>
      cases x with
      | box t c => cases y with
        | box t' c' => exact .inr (.inl ⟨_, _, _, _, rfl, rfl⟩)
        | arr k t' e' => simp [kindB] at h
      | arr k t e => cases y with
        | box t' c' => simp [kindB] at h
        | arr k' t' e' =>
          simp [kindB] at h
          subst h
          exact .inr (.inr ⟨_, _, _, _, _, rfl, rfl⟩)
theorem faddrV_kind {h h' : Nat → Option IBlk} {t : TypeId} {f : Nat} {x : IV} (hh : ∀ id, x.ment id = true → (h' id).map kindB = (h id).map kindB) : faddrV T h' t f x = faddrV T h t f x := by
  cases x <;> simp only [faddrV]
  · rw [shape_kind (hh _ (by simp [IV.ment]))]
  · rw [arr_kind (hh _ (by simp [IV.ment]))]
theorem iaddrV_kind {h h' : Nat → Option IBlk} {t : TypeId} {x y : IV} (hh : ∀ id, x.ment id = true → (h' id).map kindB = (h id).map kindB) : iaddrV T h' t x y = iaddrV T h t x y := by
  cases x <;> cases y <;> simp only [iaddrV]
  rename_i id off n f k i
  rcases kind_cases (hh id (by simp [IV.ment])) with ⟨e1, e2⟩ | ⟨_, _, _, _, e1, e2⟩ | ⟨_, _, _, _, _, e1, e2⟩ <;> rw [e1, e2]
theorem lenV_any {h h' : Nat → Option IBlk} {t : TypeId} {x : IV} : lenV T h' t x = lenV T h t x := by
  cases x <;> simp only [lenV]
theorem sliceV_kind {h h' : Nat → Option IBlk} {t : TypeId} {x : IV} {lo hi mx : Option IV} (hh : ∀ id, x.ment id = true → (h' id).map kindB = (h id).map kindB) : sliceV T h' t x lo hi mx = sliceV T h t x lo hi mx := by
  cases x with
  | ref id off n full =>
    rcases kind_cases (hh id (by simp [IV.ment])) with ⟨e1, e2⟩ | ⟨_, _, _, _, e1, e2⟩ | ⟨_, _, _, _, _, e1, e2⟩ <;>
      (rcases lo with _ | lo <;> rcases hi with _ | hi <;> rcases mx with _ | mx <;> (try rfl) <;> (try cases lo) <;> (try rfl) <;> (try cases hi) <;> (try rfl) <;> (try cases mx) <;> (try rfl) <;> simp only [sliceV, e1, e2])
  | _ => rcases lo with _ | lo <;> rcases hi with _ | hi <;> rcases mx with _ | mx <;> (try rfl) <;> (try cases lo) <;> (try rfl) <;> (try cases hi) <;> (try rfl) <;> (try cases mx) <;> rfl

/-- What is seen of g and h at some operands. -/
structure Same (l : List Operand) (g g' : Operand → IV) (h h' : Nat → Option IBlk) : Prop where
  eg : ∀ x ∈ l, g' x = g x
  eh : ∀ x ∈ l, ∀ id, (g x).ment id = true → h' id = h id

theorem map_same {g g' : Operand → IV} : ∀ {l : List Operand}, (∀ x ∈ l, g' x = g x) → l.map g' = l.map g
  | [], _ => rfl
  | x :: l, hg => by rw [List.map_cons, List.map_cons, hg x (by simp), map_same fun y hy => hg y (by simp [hy])]

theorem pureV_congr {g g' : Operand → IV} {h h' : Nat → Option IBlk} (op : Op) (S : Same op.operands.toList g g' h h') : pureV T g' h' op = pureV T g h op := by
  obtain ⟨hg, hh⟩ := S
  unfold pureV
  split
  · rename_i x; rw [hg x (by simp [Op.operands])]
  · rename_i x; rw [hg x (by simp [Op.operands])]
  · rename_i op t x y u; rw [hg x (by simp [Op.operands]), hg y (by simp [Op.operands])]
  · rename_i t x; rw [hg x (by simp [Op.operands])]
  · rename_i t x; rw [hg x (by simp [Op.operands])]
  · rename_i s d x; rw [hg x (by simp [Op.operands])]
  · rename_i t x; rw [hg x (by simp [Op.operands])]; exact loadV_congr (hh x (by simp [Op.operands]))
  · rename_i t x f; rw [hg x (by simp [Op.operands])]; exact faddrV_congr (hh x (by simp [Op.operands]))
  · rename_i t x f; rw [hg x (by simp [Op.operands])]
  · rename_i t x i; rw [hg x (by simp [Op.operands]), hg i (by simp [Op.operands])]; exact iaddrV_congr (hh x (by simp [Op.operands]))
  · rename_i t x lo hi mx
    rw [hg x (by simp [Op.operands])]
    have e1 : lo.map g' = lo.map g := by cases lo with | none => rfl | some y => simp only [Option.map_some]; rw [hg y (by simp [Op.operands])]
    have e2 : hi.map g' = hi.map g := by cases hi with | none => rfl | some y => simp only [Option.map_some]; rw [hg y (by simp [Op.operands])]
    have e3 : mx.map g' = mx.map g := by cases mx with | none => rfl | some y => simp only [Option.map_some]; rw [hg y (by simp [Op.operands])]
    rw [e1, e2, e3]
    exact sliceV_congr (hh x (by simp [Op.operands]))
  · rename_i x i; rw [hg x (by simp [Op.operands])]
  · rename_i t parts
    have e : (parts.toList.map fun p => (p.1, g' p.2)) = parts.toList.map fun p => (p.1, g p.2) := by
      apply List.map_congr_left
      intro p hp
      rw [hg p.2 (by simp only [Op.operands, List.mem_map]; exact ⟨p, hp, rfl⟩)]
    simp only [e]
  · rename_i f fi ca
    rw [map_same (l := ca.toList) (fun x hx => hg x (by simp only [Op.operands, Array.toList_append, List.mem_append]; exact .inr hx))]
  · rename_i x
    rw [hg x (by simp [Op.operands])]
    have hx := hh x (by simp [Op.operands])
    cases hv : g x with
    | ptr id off => simp only; rw [hh x (by simp [Op.operands]) id (by rw [hv]; simp [IV.ment])]
    | _ => rfl
  · rename_i args tys
    split
    · rename_i x t h1 h2
      rw [hg x (by simp [Op.operands, Call.operands, h1])]
      exact lenV_congr (hh x (by simp [Op.operands, Call.operands, h1]))
    · rfl
  · rename_i args tys
    split
    · rename_i x t h1 h2
      rw [hg x (by simp [Op.operands, Call.operands, h1])]
    · rfl
  · rename_i args tys
    split
    · rename_i x y h1
      rw [hg x (by simp [Op.operands, Call.operands, h1]), hg y (by simp [Op.operands, Call.operands, h1])]
    · rfl
  · rename_i args tys
    split
    · rename_i x y h1
      rw [hg x (by simp [Op.operands, Call.operands, h1]), hg y (by simp [Op.operands, Call.operands, h1])]
    · rfl
  · rfl

/-- An operation that looks at the make of blocks at most. -/
theorem pureV_kind {g g' : Operand → IV} {h h' : Nat → Option IBlk} (op : Op) (hg : ∀ x ∈ op.operands.toList, g' x = g x) (h2 : see op ≠ 2) (hh : see op = 1 → ∀ x ∈ op.operands.toList, ∀ id, (g x).ment id = true → (h' id).map kindB = (h id).map kindB) :
    pureV T g' h' op = pureV T g h op := by
  unfold pureV
  split
  · rename_i x; rw [hg x (by simp [Op.operands])]
  · rename_i x; rw [hg x (by simp [Op.operands])]
  · rename_i op t x y u; rw [hg x (by simp [Op.operands]), hg y (by simp [Op.operands])]
  · rename_i t x; rw [hg x (by simp [Op.operands])]
  · rename_i t x; rw [hg x (by simp [Op.operands])]
  · rename_i s d x; rw [hg x (by simp [Op.operands])]
  · exact absurd rfl h2
  · rename_i t x f; rw [hg x (by simp [Op.operands])]; exact faddrV_kind (hh rfl x (by simp [Op.operands]))
  · rename_i t x f; rw [hg x (by simp [Op.operands])]
  · rename_i t x i; rw [hg x (by simp [Op.operands]), hg i (by simp [Op.operands])]; exact iaddrV_kind (hh rfl x (by simp [Op.operands]))
  · rename_i t x lo hi mx
    rw [hg x (by simp [Op.operands])]
    have e1 : lo.map g' = lo.map g := by cases lo with | none => rfl | some y => simp only [Option.map_some]; rw [hg y (by simp [Op.operands])]
    have e2 : hi.map g' = hi.map g := by cases hi with | none => rfl | some y => simp only [Option.map_some]; rw [hg y (by simp [Op.operands])]
    have e3 : mx.map g' = mx.map g := by cases mx with | none => rfl | some y => simp only [Option.map_some]; rw [hg y (by simp [Op.operands])]
    rw [e1, e2, e3]
    exact sliceV_kind (hh rfl x (by simp [Op.operands]))
  · rename_i x i; rw [hg x (by simp [Op.operands])]
  · rename_i t parts
    have e : (parts.toList.map fun p => (p.1, g' p.2)) = parts.toList.map fun p => (p.1, g p.2) := by
      apply List.map_congr_left
      intro p hp
      rw [hg p.2 (by simp only [Op.operands, List.mem_map]; exact ⟨p, hp, rfl⟩)]
    simp only [e]
  · exact absurd rfl h2
  · rename_i x
    rw [hg x (by simp [Op.operands])]
    have hx := hh rfl x (by simp [Op.operands])
    cases hv : g x with
    | ptr id off => simp only; rw [shape_kind (hx id (by rw [hv]; simp [IV.ment]))]
    | _ => rfl
  · rename_i args tys
    split
    · rename_i x t h1 h2
      rw [hg x (by simp [Op.operands, Call.operands, h1])]
      exact lenV_any
    · rfl
  · exact absurd rfl h2
  · exact absurd rfl h2
  · exact absurd rfl h2
  · rfl

/-- Does an operation lay or write a block? -/
def heapy : Op → Bool
  | .alloc _ => true
  | .box _ _ => true
  | .buildSlice _ _ _ => true
  | .makeSlice _ _ _ => true
  | .store _ _ _ => true
  | .call { callee := .builtin .append, .. } => true
  | .call { callee := .builtin .clear, .. } => true
  | .call { callee := .value _, .. } => true
  | _ => false

/-- Two states that are the same where an operation looks. -/
structure Near (ops : List Oper) (o : Oper) (s s' : ISt) : Prop where
  g : ∀ x ∈ o.op.operands.toList, opI s'.tm x = opI s.tm x
  h : ∀ x ∈ o.op.operands.toList, ∀ id, (opI s.tm x).ment id = true → (see o.op = 2 → lkH s'.hp id = lkH s.hp id) ∧ (see o.op = 1 → (lkH s'.hp id).map kindB = (lkH s.hp id).map kindB)
  gd : gval s'.tm ops o = gval s.tm ops o
  fr : heapy o.op = true → ∀ d, o.dst = some d → (mentTm d s.tm = false → mentTm d s'.tm = false) ∧ (mentHp d s.hp = false → mentHp d s'.hp = false)

/-- The same effect, and what was asked there is asked here and no more. -/
def EffLe (e e' : Eff) : Prop := e'.tv = e.tv ∧ e'.hv = e.hv ∧ (e.ob → e'.ob)

theorem EffLe.of_eq {e e' : Eff} (h : e' = e) : EffLe e e' := by subst h; exact ⟨rfl, rfl, id⟩

section
variable {s s' : ISt}

theorem Near.gO (H : Near ops o s s') {x : Operand} (hx : x ∈ o.op.operands.toList) : gO s'.tm x = gO s.tm x := by unfold Ideal.gO; rw [H.g x hx]
theorem Near.gB (H : Near ops o s s') {x : Operand} (hx : x ∈ o.op.operands.toList) : gB s'.tm x = gB s.tm x := by unfold Ideal.gB; rw [H.g x hx]
theorem ment_strip {x : IV} {id : Nat} (h : (strip x).1.ment id = true) : x.ment id = true := by
  cases x <;> simp only [strip] at h <;> first | exact h | simpa [IV.ment] using h
theorem Near.same (H : Near ops o s s') (h2 : see o.op = 2) : Same o.op.operands.toList (Ideal.gO s.tm) (Ideal.gO s'.tm) (lkH s.hp) (lkH s'.hp) :=
  ⟨fun x hx => H.gO hx, fun x hx id hi => (H.h x hx id (ment_strip hi)).1 h2⟩
theorem Near.allB (H : Near ops o s s') : ∀ {l : List Operand}, (∀ x ∈ l, x ∈ o.op.operands.toList) → allB s'.tm l = allB s.tm l
  | [], _ => rfl
  | x :: l, hl => by
    simp only [Ideal.allB]
    rw [H.gB (hl x (by simp)), Near.allB H (fun y hy => hl y (by simp [hy]))]

theorem effPure_near (H : Near ops o s s') : effPure T N ops o s' = effPure T N ops o s := by
  unfold effPure
  have e : pureV T (Ideal.gO s'.tm) (lkH s'.hp) o.op = pureV T (Ideal.gO s.tm) (lkH s.hp) o.op := by
    by_cases h2 : see o.op = 2
    · exact pureV_congr o.op (H.same h2)
    · exact pureV_kind o.op (fun x hx => H.gO hx) h2 (fun h1 x hx id hi => (H.h x hx id (ment_strip hi)).2 h1)
  rw [H.gd, e, H.allB (fun x hx => hx)]

theorem effPick_near (H : Near ops o s s') {c x y : Operand} (ho : o.op = .pick c x y) : effPick N ops o c x y s' = effPick N ops o c x y s := by
  have hc : c ∈ o.op.operands.toList := by rw [ho]; simp [Op.operands]
  have hx : x ∈ o.op.operands.toList := by rw [ho]; simp [Op.operands]
  have hy : y ∈ o.op.operands.toList := by rw [ho]; simp [Op.operands]
  unfold effPick
  rw [H.gd, H.gO hc, H.gB hc, H.g x hx, H.g y hy]

theorem skipE_near (H : Near ops o s s') : skipE o s' ops N = skipE o s ops N := by unfold skipE; rw [H.gd]

theorem effNew_near (H : Near ops o s s') (hh : heapy o.op = true) {b b' : IBlk} {v : Nat → IV} {p p' : Prop} (hb : b' = b) (hp : p → p') : EffLe (effNew N ops o s b v p) (effNew N ops o s' b' v p') := by
  subst hb
  unfold effNew
  cases hd : o.dst with
  | none => exact .of_eq rfl
  | some d =>
    simp only []
    rw [H.gd, skipE_near H]
    cases (gval s.tm ops o).1 with
    | false => exact .of_eq rfl
    | true => exact ⟨rfl, rfl, fun ⟨h1, h2, h3, h4, h5⟩ => ⟨h1, h2, (H.fr hh d hd).1 h3, (H.fr hh d hd).2 h4, hp h5⟩⟩

theorem partsL_near : ∀ {l : List (Nat × Operand)} {i : Nat}, (∀ p ∈ l, opI s'.tm p.2 = opI s.tm p.2) → partsL s'.tm i l = partsL s.tm i l
  | [], i, _ => rfl
  | (j, x) :: l, i, h => by
    simp only [partsL]
    have e := h (j, x) (by simp)
    simp only at e
    rw [partsL_near (fun p hp => h p (by simp [hp]))]
    unfold Ideal.gO Ideal.gB
    rw [e]

theorem callArgs_near (H : Near ops o s s') {fx : Operand} {l : List Operand} (hfx : fx ∈ o.op.operands.toList) (hl : ∀ x ∈ l, x ∈ o.op.operands.toList) : callArgs s'.tm fx l = callArgs s.tm fx l := by
  unfold callArgs
  rw [H.gO hfx, map_same (l := l) (fun x hx => H.gO (hl x hx))]

theorem lend_near {h h' : Nat → Option IBlk} : ∀ {l : List IV}, (∀ x ∈ l, ∀ id, x.ment id = true → h' id = h id) → l.map (lendV h') = l.map (lendV h) ∧ allLent h' l = allLent h l
  | [], _ => ⟨rfl, rfl⟩
  | x :: l, hh => by
    obtain ⟨e1, e2⟩ := lend_near (l := l) (fun y hy => hh y (by simp [hy]))
    simp only [List.map_cons, allLent]
    rw [e1, e2, lendV_congr (hh x (by simp)), lent_congr (hh x (by simp))]
    exact ⟨rfl, rfl⟩

theorem mentL_mem {id : Nat} : ∀ {l : List IV} {x : IV}, x ∈ l → x.ment id = true → IV.mentL id l = true
  | y :: l, x, hx, h => by
    simp only [IV.mentL, Bool.or_eq_true]
    rcases List.mem_cons.1 hx with rfl | hx
    · exact .inl h
    · exact .inr (mentL_mem hx h)

theorem callArgs_ids (H : Near ops o s s') (h2 : see o.op = 2) {fx : Operand} {l : List Operand} (hfx : fx ∈ o.op.operands.toList) (hl : ∀ x ∈ l, x ∈ o.op.operands.toList) :
    ∀ x ∈ callArgs s.tm fx l, ∀ id, x.ment id = true → lkH s'.hp id = lkH s.hp id := by
  intro x hx id hi
  unfold callArgs at hx
  cases hf : gO s.tm fx with
  | clo g caps =>
    rw [hf] at hx
    rcases List.mem_append.1 hx with hx | hx
    · obtain ⟨y, hy, rfl⟩ := List.mem_map.1 hx
      exact (H.same h2).eh y (hl y hy) id hi
    · refine (H.same h2).eh fx hfx id ?_
      rw [hf]
      simp only [IV.ment]
      exact mentL_mem hx hi
  | _ => rw [hf] at hx; simp at hx

theorem effOp_near (H : Near ops o s s') : EffLe (effOp T G N ops o s) (effOp T G N ops o s') := by
  unfold effOp
  split
  · rename_i c x y ho; exact .of_eq (effPick_near H ho)
  · rename_i t ho; exact effNew_near H (by rw [ho]; rfl) rfl id
  · rename_i t x ho
    have hx : x ∈ o.op.operands.toList := by rw [ho]; simp [Op.operands]
    unfold effBox
    refine effNew_near H (by rw [ho]; rfl) (by rw [H.gO hx]) ?_
    rw [H.gO hx, H.gB hx]
    exact id
  · rename_i t n parts ho
    have hp : ∀ p ∈ parts.toList, opI s'.tm p.2 = opI s.tm p.2 := fun p hp => H.g p.2 (by rw [ho]; simp only [Op.operands, List.mem_map]; exact ⟨p, hp, rfl⟩)
    unfold effBuildSlice
    rw [partsL_near hp]
    exact effNew_near H (by rw [ho]; rfl) rfl id
  · rename_i t l c ho
    have hl : l ∈ o.op.operands.toList := by rw [ho]; simp [Op.operands]
    have hc : c ∈ o.op.operands.toList := by rw [ho]; simp [Op.operands]
    unfold effMake
    rw [H.gO hl, H.gO hc, H.gB hl, H.gB hc]
    split
    · exact effNew_near H (by rw [ho]; rfl) rfl id
    · exact .of_eq rfl
  · rename_i t p x ho
    have h2 : see o.op = 2 := by rw [ho]; rfl
    have hx : x ∈ o.op.operands.toList := by rw [ho]; simp [Op.operands]
    have hp : p ∈ o.op.operands.toList := by rw [ho]; simp [Op.operands]
    unfold effStore
    rw [H.gd, H.gO hx, H.gO hp, H.gB hx, H.gB hp, storeV_congr ((H.same h2).eh p hp)]
    exact .of_eq rfl
  · rename_i args tys ho
    split
    · rename_i sx x t t' h1 h2
      split
      · rename_i ht
        have hsx : sx ∈ o.op.operands.toList := by rw [ho]; simp [Op.operands, Call.operands, h1]
        have hx : x ∈ o.op.operands.toList := by rw [ho]; simp [Op.operands, Call.operands, h1]
        have hh : heapy o.op = true := by rw [ho]; rfl
        have h2 : see o.op = 2 := by rw [ho]; rfl
        unfold effAppend
        cases hd : o.dst with
        | none => exact .of_eq rfl
        | some d =>
          simp only []
          rw [H.gd, skipE_near H, H.gO hsx, H.gO hx, H.gB hsx, H.gB hx]
          cases (gval s.tm ops o).1 with
          | false => exact .of_eq rfl
          | true =>
            simp only [cond_true]
            have hc := fun k => srcV_congr (k := k) ((H.same h2).eh x hx)
            split
            · rename_i id n hid
              have hq := (H.same h2).eh sx hsx id (by rw [hid]; simp [IV.ment])
              rw [hq]
              split
              · rename_i k ty es hk
                rw [hc k]
                exact ⟨rfl, rfl, fun ⟨h1, h2, h3, h4, h5⟩ => ⟨h1, h2, (H.fr hh d hd).1 h3, (H.fr hh d hd).2 h4, h5⟩⟩
              · exact .of_eq rfl
            · rw [hc]
              exact ⟨rfl, rfl, fun ⟨h1, h2, h3, h4, h5⟩ => ⟨h1, h2, (H.fr hh d hd).1 h3, (H.fr hh d hd).2 h4, h5⟩⟩
            · exact .of_eq rfl
      · have hsx : sx ∈ o.op.operands.toList := by rw [ho]; simp [Op.operands, Call.operands, h1]
        have hx : x ∈ o.op.operands.toList := by rw [ho]; simp [Op.operands, Call.operands, h1]
        unfold effZeros
        rw [H.gO hsx, H.gO hx, H.gB hsx, H.gB hx]
        split
        · exact effNew_near H (by rw [ho]; rfl) rfl id
        · exact .of_eq rfl
    · exact .of_eq rfl
  · rename_i args tys ho
    split
    · rename_i x t h1 h2
      have hx : x ∈ o.op.operands.toList := by rw [ho]; simp [Op.operands, Call.operands, h1]
      have h2 : see o.op = 2 := by rw [ho]; rfl
      unfold effClear
      rw [H.gd, H.gO hx, H.gB hx]
      cases (gval s.tm ops o).1 with
      | false => exact .of_eq rfl
      | true =>
        simp only [cond_true]
        split
        · rename_i id off n f hid
          have hq := (H.same h2).eh x hx id (by rw [hid]; simp [IV.ment])
          rw [hq]
          exact .of_eq rfl
        · exact .of_eq rfl
    · exact .of_eq rfl
  · rename_i fx args tys ho
    have hfx : fx ∈ o.op.operands.toList := by rw [ho]; simp [Op.operands, Call.operands]
    have hl : ∀ x ∈ args.toList, x ∈ o.op.operands.toList := by intro x hx; rw [ho]; simp [Op.operands, Call.operands] at hx ⊢; exact .inr hx
    have h2 : see o.op = 2 := by rw [ho]; rfl
    unfold effCall
    have e1 := callArgs_near H hfx hl
    obtain ⟨e2, e3⟩ := lend_near (l := callArgs s.tm fx args.toList) (callArgs_ids H h2 hfx hl)
    have e4 : callFn s'.tm fx = callFn s.tm fx := by unfold callFn; rw [H.gO hfx]
    have e5 : hasAll (lkH s'.hp) (idsL (callArgs s.tm fx args.toList)) = hasAll (lkH s.hp) (idsL (callArgs s.tm fx args.toList)) := by
      refine hasAll_congr fun i hi => ?_
      have key : ∀ {l : List IV}, IV.mentL i l = true → ∃ x ∈ l, x.ment i = true := by
        intro l
        induction l with
        | nil => intro h; simp [IV.mentL] at h
        | cons y l ih =>
          intro h
          simp only [IV.mentL, Bool.or_eq_true] at h
          rcases h with h | h
          · exact ⟨y, by simp, h⟩
          · obtain ⟨x, hx, hm⟩ := ih h
            exact ⟨x, by simp [hx], hm⟩
      obtain ⟨x, hx, hm⟩ := key (idsL_ment _ hi)
      exact callArgs_ids H h2 hfx hl x hx i hm
    simp only []
    rw [H.gd, e1, e2, e3, e4, e5, H.gO hfx, H.allB (l := fx :: args.toList) (fun x hx => (List.mem_cons.1 hx).elim (fun e => e ▸ hfx) (fun hx => hl x hx))]
    exact .of_eq rfl
  · exact .of_eq (effPure_near H)

end
end
end Go.Ideal
