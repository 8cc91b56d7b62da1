/- The evaluator is right: each operation that makes nothing runs to the value that it gives. -/
import Derived.Test.YtodeicbcacggdaaIdB
set_option linter.unusedVariables false
set_option linter.unusedSimpArgs false
namespace Go.Ideal
open Go

def RepB (c : Ctx) (id : Nat) : IBlk → Prop
  | .box ty cells => ∃ cs, c.w.heap[c.μ id]? = some (.cells ⟨cs⟩ ty (0, 0)) ∧ RepL c cells cs ∧ ∀ u ∈ cs, u.oneCell' = true
  | .arr k ty es => ∃ cur, c.w.heap[c.μ id]? = some (.cells cur ty (0, 0)) ∧ cur.size = c.κ id * k ∧ c.κ id ≤ maxLen ∧ 1 ≤ k ∧ es.length ≤ c.κ id ∧ noIdL es ∧ RepR c k (c.μ id) 0 es

structure Hp (c : Ctx) (h : Nat → Option IBlk) : Prop where
  sh : ∀ id, c.sh id = (h id).map IBlk.shape
  blk : ∀ id b, h id = some b → RepB c id b
  av : ∀ id, h id ≠ none → c.av (c.μ id)

theorem RepL.length {c : Ctx} : ∀ {l : List IV} {vs : List Value}, RepL c l vs → vs.length = l.length
  | [], vs, h => by simp [RepL] at h; simp [h]
  | x :: l, vs, h => by
    simp only [RepL] at h
    obtain ⟨v, r, rfl, _, hl⟩ := h
    simp [RepL.length hl]

theorem RepL.get {c : Ctx} : ∀ {l : List IV} {vs : List Value}, RepL c l vs → ∀ i, i < l.length → ∃ v, vs[i]? = some v ∧ RepV c (l.getD i .junk) v
  | [], vs, h, i, hi => by simp at hi
  | x :: l, vs, h, i, hi => by
    simp only [RepL] at h
    obtain ⟨v, r, rfl, hx, hl⟩ := h
    cases i with
    | zero => exact ⟨v, by simp, by simpa using hx⟩
    | succ i =>
      obtain ⟨u, hu, hr⟩ := RepL.get hl i (by simpa using hi)
      exact ⟨u, by simpa using hu, by simpa using hr⟩

theorem RepL.drop {c : Ctx} : ∀ {l : List IV} {vs : List Value}, RepL c l vs → ∀ n, RepL c (l.drop n) (vs.drop n)
  | [], vs, h, n => by simp [RepL] at h; simp [h, RepL]
  | x :: l, vs, h, n => by
    have h0 := h
    simp only [RepL] at h
    obtain ⟨v, r, rfl, hx, hl⟩ := h
    cases n with
    | zero => simpa using h0
    | succ n => simpa using RepL.drop hl n

theorem RepL.take {c : Ctx} : ∀ {l : List IV} {vs : List Value}, RepL c l vs → ∀ n, RepL c (l.take n) (vs.take n)
  | [], vs, h, n => by simp [RepL] at h; simp [h, RepL]
  | x :: l, vs, h, n => by
    simp only [RepL] at h
    obtain ⟨v, r, rfl, hx, hl⟩ := h
    cases n with
    | zero => simp [RepL]
    | succ n =>
      simp only [List.take_succ_cons, RepL]
      exact ⟨v, _, rfl, hx, RepL.take hl n⟩

theorem RepL.append {c : Ctx} : ∀ {l : List IV} {vs : List Value} {l' : List IV} {vs' : List Value}, RepL c l vs → RepL c l' vs' → RepL c (l ++ l') (vs ++ vs')
  | [], vs, l', vs', h, h' => by simp [RepL] at h; simpa [h] using h'
  | x :: l, vs, l', vs', h, h' => by
    simp only [RepL] at h
    obtain ⟨v, r, rfl, hx, hl⟩ := h
    simp only [List.cons_append, RepL]
    exact ⟨v, _, rfl, hx, RepL.append hl h'⟩

theorem RepR.get {c : Ctx} {k b : Nat} : ∀ {es : List IV} {o : Nat}, RepR c k b o es → ∀ i, i < es.length →
    ∃ x, RepV c (es.getD i .junk) x ∧ EltOk k x ∧ ∀ j, j < k → c.w.cell? ⟨b, o + i * k + j, none⟩ = x.cells[j]?
  | [], o, h, i, hi => by simp at hi
  | e :: es, o, h, i, hi => by
    simp only [RepR] at h
    obtain ⟨⟨x, hx, hk, hc⟩, hr⟩ := h
    cases i with
    | zero => exact ⟨x, by simpa using hx, hk, fun j hj => by simpa using hc j hj⟩
    | succ i =>
      obtain ⟨y, hy, hk', hc'⟩ := RepR.get hr i (by simpa using hi)
      exact ⟨y, by simpa using hy, hk', fun j hj => by rw [show o + (i + 1) * k + j = o + k + i * k + j by rw [Nat.add_mul]; omega]; exact hc' j hj⟩

theorem noIdL.get : ∀ {es : List IV}, noIdL es → ∀ i, noId (es.getD i .junk)
  | [], _, i => fun id => by simp [IV.ment]
  | e :: es, h, 0 => fun id => by have := h id; simp [IV.mentL] at this; simpa using this.1
  | e :: es, h, i + 1 => fun id => by
    have h2 : noIdL es := fun id => by have := h id; simp [IV.mentL] at this; exact this.2
    simpa using h2.get i id

theorem noIdL.drop : ∀ {es : List IV}, noIdL es → ∀ n, noIdL (es.drop n)
  | es, h, 0 => by simpa using h
  | [], h, n + 1 => by simpa using h
  | e :: es, h, n + 1 => by
    have h2 : noIdL es := fun id => by have := h id; simp [IV.mentL] at this; exact this.2
    simpa using h2.drop n

theorem noIdL.take : ∀ {es : List IV}, noIdL es → ∀ n, noIdL (es.take n)
  | es, h, 0 => fun id => by simp [IV.mentL]
  | [], h, n + 1 => by simpa using h
  | e :: es, h, n + 1 => fun id => by
    have h2 : noIdL es := fun id => by have := h id; simp [IV.mentL] at this; exact this.2
    have := h id
    simp [IV.mentL] at this
    simp [IV.mentL, this.1, h2.take n id]

theorem RepR.drop {c : Ctx} {k b : Nat} : ∀ {es : List IV} {o : Nat}, RepR c k b o es → ∀ n, n ≤ es.length → RepR c k b (o + n * k) (es.drop n)
  | es, o, h, 0, hn => by simpa using h
  | [], o, h, n + 1, hn => by simp at hn
  | e :: es, o, h, n + 1, hn => by
    simp only [RepR] at h
    have := RepR.drop h.2 n (by simpa using hn)
    rw [show o + (n + 1) * k = o + k + n * k by rw [Nat.add_mul]; omega]
    simpa using this

theorem RepR.take {c : Ctx} {k b : Nat} : ∀ {es : List IV} {o : Nat}, RepR c k b o es → ∀ n, RepR c k b o (es.take n)
  | es, o, h, 0 => by simp [RepR]
  | [], o, h, n + 1 => by simp [RepR]
  | e :: es, o, h, n + 1 => by
    simp only [RepR] at h
    simp only [List.take_succ_cons, RepR]
    exact ⟨h.1, RepR.take h.2 n⟩

theorem Addr.add_off (b o n : Nat) : Addr.add ⟨b, o, none⟩ n = ⟨b, o + n, none⟩ := Addr.add_lit b o n

section
variable {P : Program} {T : Nat → TD} {c : Ctx} {h : Nat → Option IBlk}

/-- A variable of s cells that lie in memory is read. -/
theorem run_loadVar {t : TypeId} {d : TD} (ht : TyOK P t d) (b o : Nat) (cs : List Value) (hl : cs.length = d.size) (h1 : 1 ≤ d.size) (w : World)
    (hc : ∀ j v, cs[j]? = some v → w.cell? ⟨b, o + j, none⟩ = some v) :
    (loadVar t ⟨b, o, none⟩).run P w = .ok (if 2 ≤ d.size then .agg ⟨cs⟩ else cs.headD undef) w := by
  unfold loadVar
  simp only [Sem.run_bind, ht.agg, Result.andThen_ok]
  by_cases h2 : 2 ≤ d.size
  · simp only [h2, decide_true, if_true, Sem.run_bind, ht.size, Result.andThen_ok]
    have := run_loadCells_list (P := P) w ⟨b, o, none⟩ cs (fun j v hj => by rw [Addr.add_off]; exact hc j v hj)
    rw [hl] at this
    rw [this]
    simp
  · have hs : d.size = 1 := by omega
    match cs, hl with
    | [v], _ =>
      have hv := hc 0 v (by simp)
      rw [Nat.add_zero] at hv
      simp [hs, run_load, hv]
    | [], hl => simp [hs] at hl
    | _ :: _ :: _, hl => simp [hs] at hl

theorem partV_sound {l : List IV} {vs : List Value} (hl : RepL c l vs) {s off : Nat} (hp : (partV s off l).2) (h1 : 1 ≤ s) :
    ((vs.drop off).take s).length = s ∧ RepV c (partV s off l).1 (if 2 ≤ s then .agg ⟨(vs.drop off).take s⟩ else ((vs.drop off).take s).headD undef) := by
  have hlen := hl.length
  unfold partV at *
  by_cases h2 : 2 ≤ s
  · simp only [h2, if_true] at hp ⊢
    refine ⟨by simp; omega, ?_⟩
    simp only [RepV]
    exact ⟨_, rfl, (hl.drop off).take s⟩
  · simp only [h2, if_false] at hp ⊢
    obtain ⟨ho, rfl⟩ := hp
    obtain ⟨v, hv, hr⟩ := hl.get off ho
    have e : (vs.drop off).take 1 = [v] := by
      have hi : off < vs.length := by omega
      have : vs[off]? = some v := hv
      rw [List.getElem?_eq_getElem hi] at this
      injection this with this
      rw [List.drop_eq_getElem_cons hi, this]
      rfl
    rw [e]
    exact ⟨rfl, by simpa using hr⟩

theorem eltOk_cells {k : Nat} {x : Value} (hk : EltOk k x) : x.cells.toList.length = k := by simpa using hk.1

/-- What eltV gives of an element, read cell by cell. -/
theorem eltV_sound {k s off : Nat} {e : IV} {x : Value} (hx : RepV c e x) (hk : EltOk k x) (hp : (eltV s k e off).2) (h1 : 1 ≤ s) :
    ((x.cells.toList.drop off).take s).length = s ∧ RepV c (eltV s k e off).1 (if 2 ≤ s then .agg ⟨(x.cells.toList.drop off).take s⟩ else ((x.cells.toList.drop off).take s).headD undef) := by
  unfold eltV at *
  by_cases h0 : off = 0 ∧ s = k
  · obtain ⟨rfl, rfl⟩ := h0
    simp only [and_self, if_true] at hp ⊢
    have hlen := eltOk_cells hk
    have e0 : (x.cells.toList.drop 0).take s = x.cells.toList := by rw [List.drop_zero, List.take_of_length_le (by omega)]
    rw [e0]
    refine ⟨hlen, ?_⟩
    obtain ⟨hs, hu, ha, _⟩ := hk
    by_cases h2 : 2 ≤ s
    · simp only [h2, if_true]
      simp only [h2, decide_true] at ha
      cases x with
      | agg cs => simpa [Value.cells] using hx
      | _ => simp [isAggV] at ha
    · simp only [h2, if_false]
      simp only [h2, decide_false] at ha
      cases x with
      | agg cs => simp [isAggV] at ha
      | _ => simpa [Value.cells] using hx
  · simp only [h0, if_false] at hp ⊢
    cases e with
    | agg l =>
      simp only [RepV] at hx
      obtain ⟨vs, rfl, hl⟩ := hx
      exact partV_sound hl hp h1
    | _ => simp at hp

theorem cells_of_elt {k b o : Nat} {x : Value} (hk : EltOk k x) {w : World} (hc : ∀ j, j < k → w.cell? ⟨b, o + j, none⟩ = x.cells[j]?) (off s : Nat) (hlen : ((x.cells.toList.drop off).take s).length = s) :
    ∀ j v, ((x.cells.toList.drop off).take s)[j]? = some v → w.cell? ⟨b, o + off + j, none⟩ = some v := by
  intro j v hj
  have hl := eltOk_cells hk
  rw [List.getElem?_take] at hj
  split at hj
  · rw [List.getElem?_drop] at hj
    have hlt : off + j < k := by
      have := (List.getElem?_eq_some_iff.1 hj).1
      omega
    rw [Nat.add_assoc, hc (off + j) hlt]
    simpa using hj
  · cases hj

theorem TyOK.pos {t : TypeId} {d : TD} (ht : TyOK P t d) : 1 ≤ d.size := by
  obtain ⟨i, z, _, _, _, _, hz, _⟩ := ht.info
  exact hz.2.2.2

theorem loadV_sound (hT : TOK P T) (H : Hp c h) {t : TypeId} {x : IV} {v : Value} (hx : RepV c x v) (hp : (loadV T h t x).2) :
    ∃ y, (Instr.loadAt t v).run P c.w = .ok y c.w ∧ RepV c (loadV T h t x).1 y := by
  cases x with
  | ptr id off =>
    simp only [loadV] at hp ⊢
    cases hb : h id with
    | none => simp [hb] at hp
    | some blk =>
      cases blk with
      | arr k ty es => simp [hb] at hp
      | box ty cells =>
        simp only [hb] at hp ⊢
        have ht := hT t hp.2
        simp only [RepV] at hx
        have hs : c.sh id = some 0 := by rw [H.sh, hb]; rfl
        obtain ⟨cs, hheap, hl, h1⟩ := H.blk id _ hb
        obtain ⟨a, rfl, hv⟩ := hx
        obtain rfl := hv hs
        obtain ⟨hlen, hr⟩ := partV_sound hl hp.1 ht.pos
        refine ⟨_, ?_, hr⟩
        simp only [Instr.loadAt, Instr.sureAddr, Sem.run_bind, Sem.run_pure, Result.andThen_ok]
        refine run_loadVar ht _ _ _ hlen ht.pos _ (fun j u hj => ?_)
        rw [List.getElem?_take] at hj
        split at hj
        · rw [List.getElem?_drop] at hj
          rw [cell_of_row _ _ _ _ _ _ hheap]
          simpa using hj
        · cases hj
  | eptr k e off =>
    simp only [loadV] at hp ⊢
    have ht := hT t hp.2
    simp only [RepV] at hx
    obtain ⟨b, o, y, rfl, hav, hb, hno, hy, hk, hc⟩ := hx
    obtain ⟨hlen, hr⟩ := eltV_sound hy hk hp.1 ht.pos
    refine ⟨_, ?_, hr⟩
    simp only [Instr.loadAt, Instr.sureAddr, Sem.run_bind, Sem.run_pure, Result.andThen_ok]
    exact run_loadVar ht _ _ _ hlen ht.pos _ (cells_of_elt hk hc off _ hlen)
  | aptr id i off =>
    simp only [loadV] at hp ⊢
    cases hb : h id with
    | none => simp [hb] at hp
    | some blk =>
      cases blk with
      | box ty cells => simp [hb] at hp
      | arr k ty es =>
        simp only [hb] at hp ⊢
        obtain ⟨hp1, hi, hon⟩ := hp
        have ht := hT t hon
        simp only [RepV] at hx
        obtain ⟨cur, hheap, hsz, hcap, hk1, hle, hnoid, hR⟩ := H.blk id _ hb
        obtain ⟨a, rfl, hv⟩ := hx
        obtain rfl := hv k hk1 (by rw [H.sh, hb]; rfl)
        obtain ⟨y, hy, hk, hc⟩ := hR.get i hi
        obtain ⟨hlen, hr⟩ := eltV_sound hy hk hp1 ht.pos
        refine ⟨_, ?_, hr⟩
        simp only [Instr.loadAt, Instr.sureAddr, Sem.run_bind, Sem.run_pure, Result.andThen_ok]
        have := cells_of_elt (b := c.μ id) (o := i * k) hk (w := c.w) (fun j hj => by have := hc j hj; rwa [Nat.zero_add] at this) off _ hlen
        exact run_loadVar ht _ _ _ hlen ht.pos _ this
  | _ => simp [loadV] at hp

theorem offs_get {d : TD} {f : Nat} (hf : f < d.offs.length) : d.offs[f]? = some ((d.offs.getD f (0, 0)).1, (d.offs.getD f (0, 0)).2) := by
  rw [List.getElem?_eq_getElem hf]
  simp [List.getD, List.getElem?_eq_getElem hf]

theorem faddrV_sound (hT : TOK P T) (H : Hp c h) {t : TypeId} {f : Nat} {x : IV} {v : Value} (hx : RepV c x v) (hp : (faddrV T h t f x).2) :
    ∃ y, (Instr.fieldAt t v f).run P c.w = .ok y c.w ∧ RepV c (faddrV T h t f x).1 y := by
  have key : ∀ (b o : Nat), (T t).on = true → f < (T t).offs.length →
      (Instr.fieldAt t (.pointer (some ⟨b, o, none⟩)) f).run P c.w = .ok (.pointer (some ⟨b, o + ((T t).offs.getD f (0, 0)).1, none⟩)) c.w := by
    intro b o hon hf
    obtain ⟨fs, fd, hu, hfd, ho, hs0, hsz, _⟩ := (hT t hon).field f _ _ (offs_get hf)
    simp only [Instr.fieldAt, Sem.run_bind, run_underlying hu, Result.andThen_ok, hfd, Instr.sureAddr, Sem.run_pure, fieldPlace, hsz, hs0, if_false, Addr.add_off, ho]
  cases x with
  | ptr id off =>
    simp only [faddrV] at hp ⊢
    obtain ⟨hon, hf, hs⟩ := hp
    simp only [RepV] at hx ⊢
    obtain ⟨a, rfl, hv⟩ := hx
    obtain rfl := hv (by rw [H.sh]; exact hs)
    exact ⟨_, key _ _ hon hf, _, rfl, fun _ => rfl⟩
  | eptr k e off =>
    simp only [faddrV] at hp ⊢
    obtain ⟨hon, hf⟩ := hp
    simp only [RepV] at hx ⊢
    obtain ⟨b, o, y, rfl, hav, hb, hno, hy, hk, hc⟩ := hx
    exact ⟨_, key _ _ hon hf, b, o, y, by rw [Nat.add_assoc], hav, hb, hno, hy, hk, hc⟩
  | aptr id i off =>
    simp only [faddrV] at hp ⊢
    obtain ⟨hon, hf, k, ty, es, hb⟩ := hp
    simp only [RepV] at hx ⊢
    obtain ⟨cur, hheap, hsz, hcap, hk1, hle, hnoid, hR⟩ := H.blk id _ hb
    have hs : c.sh id = some k := by rw [H.sh, hb]; rfl
    obtain ⟨a, rfl, hv⟩ := hx
    obtain rfl := hv k hk1 hs
    refine ⟨_, key _ _ hon hf, _, rfl, fun k' hk' hs' => ?_⟩
    rw [hs] at hs'
    injection hs' with hs'
    subst hs'
    rw [Nat.add_assoc]
  | _ => simp [faddrV] at hp

theorem elem_eq {t : TypeId} {d : TD} (ht : TyOK P t d) (he : d.elem ≠ 0) : P.elem t = d.elem := by
  have := ht.slice he
  simp [Program.elem, this]

theorem iaddrV_sound (hT : TOK P T) (H : Hp c h) {t : TypeId} {x i : IV} {v u : Value} (hx : RepV c x v) (hi : RepV c i u) (hp : (iaddrV T h t x i).2) :
    ∃ y, (Instr.indexAt t v u).run P c.w = .ok y c.w ∧ RepV c (iaddrV T h t x i).1 y := by
  have key : ∀ (b o n cp : Nat) (k : IntKind) (j : Int), (T t).on = true → (T t).elem ≠ 0 → (T (T t).elem).on = true → 0 ≤ j → j < n →
      (Instr.indexAt t (.slice (some ⟨b, o, none⟩) n cp) (.int k j)).run P c.w = .ok (.pointer (some ⟨b, o + j.toNat * (T (T t).elem).size, none⟩)) c.w := by
    intro b o n cp k j hon he hoe h0 h1
    have hu := (hT t hon).slice he
    rw [run_indexAt_slice (P := P) _ _ _ _ _ _ _ (by rw [elem_eq (hT t hon) he]; exact hu), if_pos ⟨h0, h1⟩, elem_eq (hT t hon) he, (hT _ hoe).size]
    simp [Addr.add_off]
  cases x with
  | sl k es =>
    cases i with
    | num ki j =>
      simp only [iaddrV] at hp ⊢
      obtain ⟨h0, h1, hon, he, hoe, hk⟩ := hp
      simp only [RepV] at hx hi ⊢
      subst hi
      obtain ⟨a, n, cp, rfl, hn, hc, hm, han, hno, hr⟩ := hx
      have hjl : j.toNat < es.length := by omega
      obtain ⟨b, o, rfl, hav, hb, hR⟩ := hr (by omega)
      refine ⟨_, key b o n cp ki j hon he hoe h0 (by omega), ?_⟩
      obtain ⟨y, hy, hk', hcells⟩ := hR.get j.toNat hjl
      exact ⟨b, o + j.toNat * k, y, by rw [hk]; rfl, hav, hb, hno.get _, hy, hk', hcells⟩
    | _ => simp [iaddrV] at hp
  | ref id off n full =>
    cases i with
    | num ki j =>
      simp only [iaddrV] at hp ⊢
      cases hb : h id with
      | none => simp [hb] at hp
      | some blk =>
        cases blk with
        | box ty cells => simp [hb] at hp
        | arr k ty es =>
          simp only [hb] at hp ⊢
          obtain ⟨h0, h1, hon, he, hoe, hk⟩ := hp
          simp only [RepV] at hx hi ⊢
          subst hi
          obtain ⟨cur, hheap, hsz, hcap, hk1, hle, hnoid, hR⟩ := H.blk id _ hb
          have hs : c.sh id = some k := by rw [H.sh, hb]; rfl
          obtain ⟨a, cp, rfl, han, hx⟩ := hx
          obtain ⟨hn, _, _, ha⟩ := hx k hk1 hs
          have hn0 : 0 < n := by omega
          rw [ha (.inl hn0)]
          refine ⟨_, key _ _ n cp ki j hon he hoe h0 h1, _, rfl, fun k' hk' hs' => ?_⟩
          rw [hs] at hs'
          injection hs' with hs'
          subst hs'
          rw [hk, Nat.add_mul, Nat.add_zero]
    | _ => simp [iaddrV] at hp
  | _ => simp [iaddrV] at hp

end
end Go.Ideal
