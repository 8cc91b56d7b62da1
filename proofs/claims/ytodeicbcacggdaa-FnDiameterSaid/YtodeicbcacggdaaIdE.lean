/- The evaluator is right: every operation that makes nothing. -/
import Derived.Test.YtodeicbcacggdaaIdD
set_option linter.unusedVariables false
set_option linter.unusedSimpArgs false
namespace Go.Ideal
open Go

section
variable {P : Program} {T : Nat → TD} {c : Ctx} {h : Nat → Option IBlk}

/-- Parts of a struct or of a list, pairwise. -/
def RepP (c : Ctx) : List (Nat × IV) → List (Nat × Value) → Prop
  | [], l => l = []
  | (i, x) :: p, l => ∃ v r, l = (i, v) :: r ∧ RepV c x v ∧ RepP c p r

theorem fill_sound (offs : List (Nat × Nat)) : ∀ (parts : List (Nat × IV)) (parts' : List (Nat × Value)) (l : List IV) (vs : List Value),
    RepP c parts parts' → RepL c l vs → (buildL offs l parts).2 →
    ∃ vs', Instr.fill (fun i => (⟨offs⟩ : Array (Nat × Nat))[i]?) ⟨vs⟩ parts' = some ⟨vs'⟩ ∧ RepL c (buildL offs l parts).1 vs'
  | [], parts', l, vs, hp, hl, _ => by
    simp only [RepP] at hp
    subst hp
    exact ⟨vs, rfl, hl⟩
  | (i, x) :: parts, parts', l, vs, hp, hl, hb => by
    simp only [RepP] at hp
    obtain ⟨v, r, rfl, hx, hr⟩ := hp
    simp only [buildL] at hb ⊢
    obtain ⟨hi, hs, hlen, hfit, hrest⟩ := hb
    have hcs := cells_rep hx hs
    have hcl := hcs.length
    have hll := hl.length
    have hsz : v.cells.size = (offs.getD i (0, 0)).2 := by
      rw [← hlen, ← hcl]; simp
    have hcl2 : v.cells.size = x.cells.length := by rw [← hcl]; simp
    have hg : (⟨offs⟩ : Array (Nat × Nat))[i]? = some (offs.getD i (0, 0)) := by
      simp [List.getD, List.getElem?_eq_getElem hi]
    have hrest0 := hrest
    generalize hq : offs.getD i (0, 0) = q at *
    have hfold : (v.cells.zipIdx.foldl (fun (cs : Array Value) (p : Value × Nat) => cs.setIfInBounds (q.1 + p.2) p.1) ⟨vs⟩) = ⟨overV vs q.1 v.cells.toList⟩ := by
      have := fold_over v.cells.toList 0 q.1 vs (by simp at hcl ⊢; omega)
      rw [← Array.foldl_toList]
      simpa using this
    obtain ⟨vs', hf, hR⟩ := fill_sound offs parts r _ _ hr (hl.lay hcs q.1) hrest
    refine ⟨vs', ?_, hR⟩
    unfold Instr.fill
    simp only [hg]
    rw [if_neg (by simp only [List.size_toArray, ne_eq, Bool.or_eq_true, decide_eq_true_eq, not_or]; exact ⟨by simpa using hsz, by omega⟩)]
    exact hfold ▸ hf

theorem RepO_map {g : Operand → IV} {ρ : Operand → Value} {l : Option Operand} (hg : ∀ x ∈ l.toArray, RepV c (g x) (ρ x)) : RepO c (l.map g) (l.map ρ) := by
  cases l with
  | none => simp [RepO]
  | some x => exact hg x (by simp)

theorem RepL_map {g : Operand → IV} {ρ : Operand → Value} : ∀ {l : List Operand}, (∀ x ∈ l, RepV c (g x) (ρ x)) → RepL c (l.map g) (l.map ρ)
  | [], _ => by simp [RepL]
  | x :: l, hg => by
    simp only [List.map_cons, RepL]
    exact ⟨_, _, rfl, hg x (by simp), RepL_map (fun y hy => hg y (by simp [hy]))⟩

theorem RepP_map {g : Operand → IV} {ρ : Operand → Value} : ∀ {l : List (Nat × Operand)}, (∀ p ∈ l, RepV c (g p.2) (ρ p.2)) → RepP c (l.map fun p => (p.1, g p.2)) (l.map fun p => (p.1, ρ p.2))
  | [], _ => by simp [RepP]
  | x :: l, hg => by
    simp only [List.map_cons, RepP]
    exact ⟨_, _, rfl, hg x (by simp), RepP_map (fun y hy => hg y (by simp [hy]))⟩

theorem isInt_some {t : TypeId} (hT : TOK P T) (hon : (T t).on = true) (hi : (T t).ik.isSome = true) : (P.underlying t).isSome = true := by
  obtain ⟨k, hk⟩ := Option.isSome_iff_exists.mp hi
  rw [(hT t hon).int k hk]; rfl

theorem pureV_sound (hT : TOK P T) (H : Hp c h) {g : Operand → IV} {ρ : Operand → Value} (o : Oper) (hg : ∀ x ∈ o.op.operands.toList, RepV c (g x) (ρ x)) (hp : (pureV T g h o.op).2) :
    ∃ y, (execOp ρ o).run P c.w = .ok (.value y) c.w ∧ RepV c (pureV T g h o.op).1 y := by
  obtain ⟨dst, op, ty, pos, aft, gd⟩ := o
  simp only at hg hp ⊢
  have fin : ∀ (s : Sem Value), execOp ρ ⟨dst, op, ty, pos, aft, gd⟩ = (do pure (.value (← s))) → (∃ y, s.run P c.w = .ok y c.w ∧ RepV c (pureV T g h op).1 y) →
      ∃ y, (execOp ρ ⟨dst, op, ty, pos, aft, gd⟩).run P c.w = .ok (.value y) c.w ∧ RepV c (pureV T g h op).1 y := by
    rintro s hs ⟨y, hy, hr⟩
    exact ⟨y, by rw [hs]; simp [hy], hr⟩
  cases op with
  | move x => exact ⟨ρ x, by simp [execOp], hg x (by simp [Op.operands])⟩
  | assign x => exact ⟨ρ x, by simp [execOp], hg x (by simp [Op.operands])⟩
  | binOp bop t x y yt =>
    exact fin _ rfl (binV_sound hT x y (hg x (by simp [Op.operands])) (hg y (by simp [Op.operands])) hp)
  | unOp uop t x =>
    refine fin _ rfl ?_
    have hx := hg x (by simp [Op.operands])
    cases uop with
    | neg =>
      simp only [pureV] at hp ⊢
      cases hgx : g x <;> rw [hgx] at hx hp <;> first | exact hp.elim | skip
      simp only [RepV] at hx ⊢
      rw [hx]
      simp [Op.unary, Op.intArith]
    | not =>
      simp only [pureV] at hp ⊢
      cases hgx : g x <;> rw [hgx] at hx hp <;> first | exact hp.elim | skip
      simp only [RepV] at hx ⊢
      rw [hx]
      simp [Op.unary]
    | xor => simp [pureV] at hp
    | plus => simp [pureV] at hp
  | convert s d x =>
    refine fin _ rfl ?_
    have hx := hg x (by simp [Op.operands])
    simp only [pureV] at hp ⊢
    cases hgx : g x with
    | num k n =>
      rw [hgx] at hx hp
      cases hd : (T d).ik with
      | none => simp [hd] at hp
      | some kd =>
        simp only [hd] at hp ⊢
        obtain ⟨hond, hons, his⟩ := hp
        simp only [RepV] at hx ⊢
        rw [hx]
        have hu := (hT d hond).int kd hd
        obtain ⟨k', hk'⟩ := Option.isSome_iff_exists.mp his
        have hu' := (hT s hons).int k' hk'
        refine ⟨_, ?_, rfl⟩
        simp [convert, run_underlying hu', run_underlying hu, Conv.intToInt]
    | _ => rw [hgx] at hp; exact hp.elim
  | load t x => exact fin _ rfl (loadV_sound hT H (hg x (by simp [Op.operands])) hp)
  | fieldAddr t x f => exact fin _ rfl (faddrV_sound hT H (hg x (by simp [Op.operands])) hp)
  | field t x f =>
    refine fin _ rfl ?_
    have hx := hg x (by simp [Op.operands])
    simp only [pureV] at hp ⊢
    cases hgx : g x with
    | agg l =>
      rw [hgx] at hx hp
      simp only at hp ⊢
      obtain ⟨hp1, hon, hf⟩ := hp
      simp only [RepV] at hx
      obtain ⟨vs, hv, hl⟩ := hx
      obtain ⟨fs, fd, hu, hfd, ho, hs0, hsz, hag, _⟩ := (hT t hon).field f _ _ (offs_get hf)
      obtain ⟨hlen, hr⟩ := partV_sound hl hp1 (by omega)
      refine ⟨_, ?_, hr⟩
      rw [hv]
      simp only [Instr.field, Sem.run_bind, run_underlying hu, Result.andThen_ok, hfd, asAgg, Sem.run_pure, part, hag, ho]
      by_cases h2 : 2 ≤ ((T t).offs.getD f (0, 0)).2
      · simp only [h2, decide_true, if_true, Sem.run_bind, hsz, Result.andThen_ok, Sem.run_pure]
        congr 2
        simp [List.extract_eq_take_drop]
      · have h1 : ((T t).offs.getD f (0, 0)).2 = 1 := by omega
        have h2' : ¬ 2 ≤ 1 := by omega
        rw [h1] at hlen ⊢
        simp only [h2', decide_false, if_false, Bool.false_eq_true]
        have hlt : ((T t).offs.getD f (0, 0)).1 < vs.length := by
          rw [List.length_take, List.length_drop] at hlen; omega
        have e : (⟨vs⟩ : Array Value)[((T t).offs.getD f (0, 0)).1]? = some vs[((T t).offs.getD f (0, 0)).1] := by simp [hlt]
        have e2 : (vs.drop ((T t).offs.getD f (0, 0)).1).take 1 = [vs[((T t).offs.getD f (0, 0)).1]] := by
          rw [List.drop_eq_getElem_cons hlt]; rfl
        rw [e, e2]
        simp
    | _ => rw [hgx] at hp; exact hp.elim
  | indexAddr t x i => exact fin _ rfl (iaddrV_sound hT H (hg x (by simp [Op.operands])) (hg i (by simp [Op.operands])) hp)
  | slice t x lo hi mx =>
    exact fin _ rfl (sliceV_sound hT H (hg x (by simp [Op.operands])) (RepO_map fun y hy => hg y (by simp [Op.operands] at hy ⊢; simp [hy]))
      (RepO_map fun y hy => hg y (by simp [Op.operands] at hy ⊢; simp [hy])) (RepO_map fun y hy => hg y (by simp [Op.operands] at hy ⊢; simp [hy])) hp)
  | extract x i =>
    refine fin _ rfl ?_
    have hx := hg x (by simp [Op.operands])
    simp only [pureV] at hp ⊢
    cases hgx : g x with
    | tup l =>
      rw [hgx] at hx hp
      simp only at hp ⊢
      simp only [RepV] at hx
      obtain ⟨vs, hv, hl⟩ := hx
      obtain ⟨u, hu, hr⟩ := hl.get i hp
      refine ⟨u, ?_, hr⟩
      rw [hv]
      have : (⟨vs⟩ : Array Value)[i]? = some u := by simpa using hu
      simp [Instr.extract, this]
    | _ => rw [hgx] at hp; exact hp.elim
  | build t parts =>
    refine fin _ rfl ?_
    simp only [pureV] at hp ⊢
    obtain ⟨hb, hon, hne⟩ := hp
    obtain ⟨i, z, hi, _, _, hz, _, hfree⟩ := (hT t hon).info
    obtain ⟨fs, hu, hm⟩ := (hT t hon).places hne
    obtain ⟨vs', hf, hR⟩ := fill_sound (c := c) (T t).offs _ _ _ _ (RepP_map (c := c) (g := g) (ρ := ρ) (l := parts.toList) (fun p hp => hg p.2 (by simp [Op.operands]; exact ⟨p.1, by simpa using hp⟩))) (hfree c) hb
    refine ⟨.agg ⟨vs'⟩, ?_, ?_⟩
    · simp only [Instr.build, zeroValue, typeInfo, Sem.run_bind, run_program, Result.andThen_ok, hi, Sem.run_pure, hz, run_underlying hu, hm]
      have e : (parts.map fun p => (p.1, ρ p.2)).toList = parts.toList.map fun p => (p.1, ρ p.2) := by simp
      have e2 : (⟨z.cells.toList⟩ : Array Value) = z.cells := by simp
      rw [e2] at hf
      have hf' : Instr.fill (fun x => (⟨(T t).offs⟩ : Array (Nat × Nat))[x]?) z.cells (parts.map fun p => (p.1, ρ p.2)).toList = some ⟨vs'⟩ := by rw [e]; exact hf
      simp only [hf', Sem.run_pure]
    · simp only [RepV]
      exact ⟨vs', rfl, hR⟩
  | makeFunc fn first captured =>
    cases fn with
    | func f =>
      refine fin _ rfl ?_
      simp only [pureV] at hp ⊢
      subst hp
      refine ⟨.func (.func f) #[] (captured.map ρ), by simp [Instr.makeFunc], ?_⟩
      simp only [RepV]
      exact ⟨captured.toList.map ρ, by congr 1; apply Array.ext'; simp, RepL_map fun y hy => hg y (by simp [Op.operands] at hy ⊢; exact hy)⟩
    | _ => simp [pureV] at hp
  | nilCheck x =>
    have hx := hg x (by simp [Op.operands])
    simp only [pureV] at hp ⊢
    cases hgx : g x with
    | ptr id off =>
      rw [hgx] at hx hp
      simp only at hp ⊢
      have h0 := hx
      simp only [RepV] at hx
      obtain ⟨a, hv, _⟩ := hx
      exact ⟨_, by simp only [execOp, hv]; rfl, hv ▸ h0⟩
    | _ => rw [hgx] at hp; exact hp.elim
  | call cl =>
    obtain ⟨callee, args, argTypes⟩ := cl
    cases callee with
    | builtin b =>
      cases b <;> first | (simp [pureV] at hp; done) | skip
      · simp only [pureV] at hp ⊢
        obtain ⟨args⟩ := args
        obtain ⟨argTypes⟩ := argTypes
        match args, argTypes with
        | [x], [t] =>
          have hx := hg x (by simp [Op.operands, Call.operands])
          simp only at hp ⊢
          cases hgx : g x <;> rw [hgx] at hx hp <;> first | exact hp.elim | skip
          simp only [RepV] at hx ⊢
          refine ⟨_, ?_, rfl⟩
          simp only [execOp, resolve, invoke, builtin, Sem.run_bind, Sem.run_pure, Result.andThen_ok, List.map_toArray, List.map_cons, List.map_nil, hx]
          rw [run_cap_slice _ _ _ _ _ _ (by rw [elem_eq (hT t hp.1) hp.2]; exact (hT t hp.1).slice hp.2)]
          rfl
        | [], _ => simp at hp
        | [_], [] => simp at hp
        | [_], _ :: _ :: _ => simp at hp
        | _ :: _ :: _, _ => simp at hp
      · simp only [pureV] at hp ⊢
        obtain ⟨args⟩ := args
        obtain ⟨argTypes⟩ := argTypes
        match args, argTypes with
        | [x], [t] =>
          obtain ⟨y, hy, hr⟩ := lenV_sound (ty := ty) hT H (hg x (by simp [Op.operands, Call.operands])) hp
          exact ⟨y, by simp [execOp, resolve, invoke, builtin, hy], hr⟩
        | [], _ => simp at hp
        | [_], [] => simp at hp
        | [_], _ :: _ :: _ => simp at hp
        | _ :: _ :: _, _ => simp at hp
      · simp only [pureV] at hp ⊢
        obtain ⟨args⟩ := args
        match args with
        | [x, y] =>
          have hx := hg x (by simp [Op.operands, Call.operands])
          have hy := hg y (by simp [Op.operands, Call.operands])
          simp only at hp ⊢
          cases hgx : g x <;> rw [hgx] at hx hp <;> first | exact hp.elim | skip
          cases hgy : g y <;> rw [hgy] at hy hp <;> first | exact hp.elim | skip
          rename_i k a k' b
          simp only [RepV] at hx hy ⊢
          refine ⟨_, ?_, rfl⟩
          simp only [execOp, resolve, invoke, builtin, Sem.run_bind, Sem.run_pure, Result.andThen_ok, List.map_toArray, List.map_cons, List.map_nil, hx, hy, run_max_int2]
          congr 3
          by_cases hab : b > a
          · rw [if_pos hab]; omega
          · rw [if_neg hab]; omega
        | [] => simp at hp
        | [_] => simp at hp
        | _ :: _ :: _ :: _ => simp at hp
      · simp only [pureV] at hp ⊢
        obtain ⟨args⟩ := args
        match args with
        | [x, y] =>
          have hx := hg x (by simp [Op.operands, Call.operands])
          have hy := hg y (by simp [Op.operands, Call.operands])
          simp only at hp ⊢
          cases hgx : g x <;> rw [hgx] at hx hp <;> first | exact hp.elim | skip
          cases hgy : g y <;> rw [hgy] at hy hp <;> first | exact hp.elim | skip
          rename_i k a k' b
          simp only [RepV] at hx hy ⊢
          refine ⟨_, ?_, rfl⟩
          simp only [execOp, resolve, invoke, builtin, Sem.run_bind, Sem.run_pure, Result.andThen_ok, List.map_toArray, List.map_cons, List.map_nil, hx, hy, run_min_int2]
          congr 3
          by_cases hab : b < a
          · rw [if_pos hab]; omega
          · rw [if_neg hab]; omega
        | [] => simp at hp
        | [_] => simp at hp
        | _ :: _ :: _ :: _ => simp at hp
    | _ => simp [pureV] at hp
  | _ => simp [pureV] at hp

end
end Go.Ideal
