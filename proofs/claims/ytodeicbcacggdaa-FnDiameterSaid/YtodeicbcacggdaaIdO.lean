/- Helpers for a table of types. -/
import Derived.Test.YtodeicbcacggdaaIdN
set_option linter.unusedVariables false
set_option linter.unusedSimpArgs false
namespace Go.Ideal
open Go

section
variable {P : Program}

theorem tyOK_mk {t : TypeId} {d : TD} {z : Value} {u : TypeDesc} (hi : (P.info? t).map (fun i => (i.size, i.bytes, i.zero)) = some (d.size, d.bytes, some z)) (hu : P.underlying t = some u)
    (he : EltOk d.size z) (hf : freeOK d.zero z.cells.toList) (ha : ∀ w, (isAgg t).run P w = .ok (decide (2 ≤ d.size)) w) (hs : d.elem ≠ 0 → P.underlying t = some (.slice d.elem))
    (hfd : ∀ (i o s : Nat), d.offs[i]? = some (o, s) → ∃ (fs : Array Field) (f : Field), P.underlying t = some (.struct fs) ∧ fs[i]? = some f ∧ f.offset = o ∧ s ≠ 0 ∧ (∀ w, (sizeOf f.type).run P w = .ok s w) ∧ (∀ w, (isAgg f.type).run P w = .ok (decide (2 ≤ s)) w) ∧ fs.size = d.offs.length)
    (hp : d.offs ≠ [] → ∃ (fs : Array Field), P.underlying t = some (.struct fs) ∧ ∀ w, (fs.mapM fun (f : Field) => (do pure (f.offset, ← sizeOf f.type) : Sem (Nat × Nat))).run P w = .ok (⟨d.offs⟩ : Array (Nat × Nat)) w)
    (h1 : ∀ k, d.ik = some k → P.underlying t = some (.int k)) (h2 : d.bl = true → P.underlying t = some .bool) (h3 : d.st = true → P.underlying t = some .string)
    (h4 : d.eqb = true → ∀ (op : BinOp) (x y : Operand) (xs ys : List Int) (w : World), xs.length = d.size → ys.length = d.size →
      (eqGuard op t x y (.agg ⟨xs.map (Value.int .i64)⟩) (.agg ⟨ys.map (Value.int .i64)⟩)).run P w = .ok () w ∧
      (Op.equal t (.agg ⟨xs.map (Value.int .i64)⟩) (.agg ⟨ys.map (Value.int .i64)⟩)).run P w = .ok (decide (xs = ys)) w) : TyOK P t d := by
  refine ⟨?_, ha, hs, hfd, h1, h2, h3, hp, h4⟩
  cases h : P.info? t with
  | none => rw [h] at hi; simp at hi
  | some i =>
    rw [h] at hi
    simp only [Option.map_some, Option.some.injEq, Prod.mk.injEq] at hi
    exact ⟨i, z, rfl, hi.1, hi.2.1, hi.2.2, he, hf⟩

/-- A field that is an int of 64 bits. -/
def IntF (P : Program) (f : Field) : Prop := f.name ≠ "_" ∧ P.underlying f.type = some (.int .i64)

theorem part_int {f : Field} (hf : IntF P f) (w : World) (cs : List Value) (v : Value) (h : cs[f.offset]? = some v) : (part f.type ⟨cs⟩ f.offset).run P w = .ok v w := by
  have e : (⟨cs⟩ : Array Value)[f.offset]? = some v := by simpa using h
  simp [part, isAgg, run_underlying hf.2, e]

theorem eqFields_cons {f : Field} (hf : IntF P f) (d : Nat) (w : World) (xs ys : List Value) (a b : Int) (ha : xs[f.offset]? = some (.int .i64 a)) (hb : ys[f.offset]? = some (.int .i64 b)) (fs : List Field) (r : Bool)
    (hr : (Op.eqFields (d + 1) ⟨xs⟩ ⟨ys⟩ fs).run P w = .ok r w) : (Op.eqFields (d + 1) ⟨xs⟩ ⟨ys⟩ (f :: fs)).run P w = .ok ((a == b) && r) w := by
  simp only [Op.eqFields, hf.1, ne_eq, not_false_eq_true, if_true, Sem.run_bind, part_int hf w _ _ ha, part_int hf w _ _ hb, Result.andThen_ok, run_equalIn_int _ _ _ _ _ _ _ hf.2]
  cases a == b <;> simp [hr]

theorem eqg_flat {t : TypeId} (hp : P.stoodInHeld t = false) (hm : P.eqGuardType P.depth t = false) {fs : List Field} (hu : P.underlying t = some (.struct ⟨fs⟩)) (n : Nat)
    (key : ∀ (d : Nat) (w : World) (xs ys : List Int), xs.length = n → ys.length = n → (Op.eqFields (d + 1) ⟨xs.map (Value.int .i64)⟩ ⟨ys.map (Value.int .i64)⟩ fs).run P w = .ok (decide (xs = ys)) w) :
    ∀ (op : BinOp) (x y : Operand) (xs ys : List Int) (w : World), xs.length = n → ys.length = n →
      (eqGuard op t x y (.agg ⟨xs.map (Value.int .i64)⟩) (.agg ⟨ys.map (Value.int .i64)⟩)).run P w = .ok () w ∧
      (Op.equal t (.agg ⟨xs.map (Value.int .i64)⟩) (.agg ⟨ys.map (Value.int .i64)⟩)).run P w = .ok (decide (xs = ys)) w := by
  intro op x y xs ys w hx hy
  refine ⟨run_eqGuard_agg w op t x y _ _ hm, ?_⟩
  have hF : P.fieldsOf t = ⟨fs⟩ := by simp [Program.fieldsOf, hu]
  unfold Op.equal Op.maxDepth
  rw [run_equalIn_struct w 9999 t _ _ (by rw [hF]; exact hu) hp, hF]
  exact key 9998 w xs ys hx hy

theorem eqg_flat2 {t : TypeId} (hp : P.stoodInHeld t = false) (hm : P.eqGuardType P.depth t = false) {fs : List Field} (hu : P.underlying t = some (.struct ⟨fs⟩)) (n : Nat)
    (key : ∀ (d : Nat) (w : World) (xs ys : List Int), xs.length = n → ys.length = n → (Op.eqFields (d + 2) ⟨xs.map (Value.int .i64)⟩ ⟨ys.map (Value.int .i64)⟩ fs).run P w = .ok (decide (xs = ys)) w) :
    ∀ (op : BinOp) (x y : Operand) (xs ys : List Int) (w : World), xs.length = n → ys.length = n →
      (eqGuard op t x y (.agg ⟨xs.map (Value.int .i64)⟩) (.agg ⟨ys.map (Value.int .i64)⟩)).run P w = .ok () w ∧
      (Op.equal t (.agg ⟨xs.map (Value.int .i64)⟩) (.agg ⟨ys.map (Value.int .i64)⟩)).run P w = .ok (decide (xs = ys)) w := by
  intro op x y xs ys w hx hy
  refine ⟨run_eqGuard_agg w op t x y _ _ hm, ?_⟩
  have hF : P.fieldsOf t = ⟨fs⟩ := by simp [Program.fieldsOf, hu]
  unfold Op.equal Op.maxDepth
  rw [run_equalIn_struct w 9999 t _ _ (by rw [hF]; exact hu) hp, hF]
  exact key 9997 w xs ys hx hy

theorem key2 {f0 f1 : Field} (h0 : IntF P f0) (h1 : IntF P f1) (o0 : f0.offset = 0) (o1 : f1.offset = 1) (d : Nat) (w : World) (xs ys : List Int) (hx : xs.length = 2) (hy : ys.length = 2) :
    (Op.eqFields (d + 1) ⟨xs.map (Value.int .i64)⟩ ⟨ys.map (Value.int .i64)⟩ [f0, f1]).run P w = .ok (decide (xs = ys)) w := by
  match xs, ys, hx, hy with
  | [a0, a1], [b0, b1], _, _ =>
    rw [eqFields_cons h0 d w _ _ a0 b0 (by simp [o0]) (by simp [o0]) _ _ (eqFields_cons h1 d w _ _ a1 b1 (by simp [o1]) (by simp [o1]) _ _ rfl)]
    congr 1
    by_cases e0 : a0 = b0 <;> by_cases e1 : a1 = b1 <;> simp [e0, e1]

theorem key3 {f0 f1 f2 : Field} (h0 : IntF P f0) (h1 : IntF P f1) (h2 : IntF P f2) (o0 : f0.offset = 0) (o1 : f1.offset = 1) (o2 : f2.offset = 2) (d : Nat) (w : World) (xs ys : List Int) (hx : xs.length = 3) (hy : ys.length = 3) :
    (Op.eqFields (d + 1) ⟨xs.map (Value.int .i64)⟩ ⟨ys.map (Value.int .i64)⟩ [f0, f1, f2]).run P w = .ok (decide (xs = ys)) w := by
  match xs, ys, hx, hy with
  | [a0, a1, a2], [b0, b1, b2], _, _ =>
    rw [eqFields_cons h0 d w _ _ a0 b0 (by simp [o0]) (by simp [o0]) _ _ (eqFields_cons h1 d w _ _ a1 b1 (by simp [o1]) (by simp [o1]) _ _ (eqFields_cons h2 d w _ _ a2 b2 (by simp [o2]) (by simp [o2]) _ _ rfl))]
    congr 1
    by_cases e0 : a0 = b0 <;> by_cases e1 : a1 = b1 <;> by_cases e2 : a2 = b2 <;> simp [e0, e1, e2]

/-- Two fields that are structs of two ints each. -/
theorem key22 {f0 f1 g0 g1 : Field} (n0 : f0.name ≠ "_") (n1 : f1.name ≠ "_") (p0 : P.stoodInHeld f0.type = false) (p1 : P.stoodInHeld f1.type = false) (u0 : P.underlying f0.type = some (.struct #[g0, g1])) (u1 : P.underlying f1.type = some (.struct #[g0, g1]))
    (s0 : ∀ w, (sizeOf f0.type).run P w = .ok 2 w) (s1 : ∀ w, (sizeOf f1.type).run P w = .ok 2 w)
    (h0 : IntF P g0) (h1 : IntF P g1) (q0 : g0.offset = 0) (q1 : g1.offset = 1) (o0 : f0.offset = 0) (o1 : f1.offset = 2) (d : Nat) (w : World) (xs ys : List Int) (hx : xs.length = 4) (hy : ys.length = 4) :
    (Op.eqFields (d + 2) ⟨xs.map (Value.int .i64)⟩ ⟨ys.map (Value.int .i64)⟩ [f0, f1]).run P w = .ok (decide (xs = ys)) w := by
  match xs, ys, hx, hy with
  | [a0, a1, a2, a3], [b0, b1, b2, b3], _, _ =>
    have hp0 : ∀ (x0 x1 x2 x3 : Int), (part f0.type ⟨[x0, x1, x2, x3].map (Value.int .i64)⟩ f0.offset).run P w = .ok (.agg ⟨[x0, x1].map (Value.int .i64)⟩) w := by
      intro x0 x1 x2 x3; simp [part, isAgg, run_underlying u0, s0, o0]
    have hp1 : ∀ (x0 x1 x2 x3 : Int), (part f1.type ⟨[x0, x1, x2, x3].map (Value.int .i64)⟩ f1.offset).run P w = .ok (.agg ⟨[x2, x3].map (Value.int .i64)⟩) w := by
      intro x0 x1 x2 x3; simp [part, isAgg, run_underlying u1, s1, o1]
    have F0 : P.fieldsOf f0.type = #[g0, g1] := by simp [Program.fieldsOf, u0]
    have F1 : P.fieldsOf f1.type = #[g0, g1] := by simp [Program.fieldsOf, u1]
    have e0 := run_equalIn_struct (P := P) w (d + 1) f0.type ⟨[a0, a1].map (Value.int .i64)⟩ ⟨[b0, b1].map (Value.int .i64)⟩ (by rw [F0]; exact u0) p0
    have e1 := run_equalIn_struct (P := P) w (d + 1) f1.type ⟨[a2, a3].map (Value.int .i64)⟩ ⟨[b2, b3].map (Value.int .i64)⟩ (by rw [F1]; exact u1) p1
    rw [F0] at e0
    rw [F1] at e1
    have k0 := key2 h0 h1 q0 q1 d w [a0, a1] [b0, b1] rfl rfl
    have k1 := key2 h0 h1 q0 q1 d w [a2, a3] [b2, b3] rfl rfl
    have e0' : (Op.equalIn (d + 2) f0.type (.agg ⟨[a0, a1].map (Value.int .i64)⟩) (.agg ⟨[b0, b1].map (Value.int .i64)⟩)).run P w = .ok (decide ([a0, a1] = [b0, b1])) w := e0.trans k0
    have e1' : (Op.equalIn (d + 2) f1.type (.agg ⟨[a2, a3].map (Value.int .i64)⟩) (.agg ⟨[b2, b3].map (Value.int .i64)⟩)).run P w = .ok (decide ([a2, a3] = [b2, b3])) w := e1.trans k1
    have t1 : (Op.eqFields (d + 2) ⟨[a0, a1, a2, a3].map (Value.int .i64)⟩ ⟨[b0, b1, b2, b3].map (Value.int .i64)⟩ [f1]).run P w = .ok (decide ([a2, a3] = [b2, b3])) w := by
      simp only [Op.eqFields, n1, ne_eq, not_false_eq_true, if_true, Sem.run_bind, hp1, Result.andThen_ok, e1']
      cases decide ([a2, a3] = [b2, b3]) <;> simp
    have hd : decide ([a0, a1, a2, a3] = [b0, b1, b2, b3]) = (decide ([a0, a1] = [b0, b1]) && decide ([a2, a3] = [b2, b3])) := by
      by_cases c0 : a0 = b0 <;> by_cases c1 : a1 = b1 <;> by_cases c2 : a2 = b2 <;> by_cases c3 : a3 = b3 <;> simp [c0, c1, c2, c3]
    rw [hd]
    unfold Op.eqFields
    simp only [n0, ne_eq, not_false_eq_true, if_true, Sem.run_bind, hp0, Result.andThen_ok, e0']
    cases decide ([a0, a1] = [b0, b1]) with
    | false => simp
    | true => simpa using t1

/-- A table as a list. -/
def lkD : List (Nat × TD) → Nat → TD
  | [], _ => { on := false }
  | (j, d) :: l, t => if j = t then d else lkD l t
def FOK (P : Program) : List (Nat × TD) → Prop
  | [] => True
  | (j, d) :: l => TyOK P j d ∧ FOK P l
theorem fok_nil : FOK P [] := trivial
theorem fok_cons {j : Nat} {d : TD} {l : List (Nat × TD)} (h : TyOK P j d) (hl : FOK P l) : FOK P ((j, d) :: l) := ⟨h, hl⟩
theorem lkD_ok : ∀ {l : List (Nat × TD)}, FOK P l → TOK P (lkD l)
  | [], _, t, h => by simp [lkD] at h
  | (j, d) :: l, hf, t, h => by
    unfold lkD at h ⊢
    by_cases e : j = t
    · rw [if_pos e]; exact e ▸ hf.1
    · rw [if_neg e] at h ⊢; exact lkD_ok hf.2 t h

end
end Go.Ideal
