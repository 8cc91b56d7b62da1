/- The evaluator is right, continued: slices, lengths, binary operations, structs built; then every operation that makes nothing. -/
import Derived.Test.YtodeicbcacggdaaIdC
import Derived.Laws.Cover3
set_option linter.unusedVariables false
set_option linter.unusedSimpArgs false
namespace Go.Ideal
open Go

section
variable {P : Program} {T : Nat → TD} {c : Ctx} {h : Nat → Option IBlk}

/-- A by-value slice, resliced. -/
theorem sl_sliced {k : Nat} {es : List IV} {v : Value} (hx : RepV c (.sl k es) v) (s l hh m : Nat) (hlh : l ≤ hh) (hle : hh ≤ es.length) (hs : s = k) :
    ∀ a n cp, v = .slice a n cp → hh ≤ m → m ≤ cp → RepV c (.sl k ((es.take hh).drop l)) (sliced a l hh m s) := by
  intro a n cp hv hhm hmc
  subst hs
  simp only [RepV] at hx ⊢
  obtain ⟨a', n', cp', hv', hn, hc, hm, han, hno, hr⟩ := hx
  rw [hv] at hv'
  injection hv' with e1 e2 e3
  subst e1 e2 e3
  refine ⟨_, _, _, rfl, by simp; omega, by omega, by omega, fun hq => ?_, (hno.take hh).drop l, fun h0 => ?_⟩
  · have h0 : a = none := by
      revert hq; split
      · exact fun h => h
      · cases a <;> simp
    have := han h0
    omega
  obtain ⟨b, o, ha, hav, hb, hR⟩ := hr (by omega)
  subst ha
  refine ⟨b, o + l * s, ?_, hav, hb, (hR.take hh).drop l (by simp; omega)⟩
  rw [if_neg (by omega)]
  simp [Addr.add_off]

theorem take_all {es : List IV} {n : Nat} (hn : n = es.length) : es.take n = es := List.take_of_length_le (by omega)

theorem run_slice_ok {t : TypeId} (hon : (T t).on = true) (he : (T t).elem ≠ 0) (hoe : (T (T t).elem).on = true) (hT : TOK P T) (a : Option Addr) (n cp : Nat) (lo hi mx : Option Value) (l hh m : Nat)
    (hb : (Instr.sliceBounds true n cp lo hi mx).run P c.w = .ok (l, hh, m) c.w) :
    (Instr.sliceAt t (.slice a n cp) lo hi mx).run P c.w = .ok (sliced a l hh m (T (T t).elem).size) c.w := by
  have hu := (hT t hon).slice he
  have hE := elem_eq (hT t hon) he
  rw [run_sliceAt_slice (P := P) _ _ _ _ _ _ (by rw [hE]; exact hu), run_slice_any (P := P) _ _ _ _ _ (by rw [hE]; exact hu), hb]
  simp only [Result.andThen_ok, hE, (hT _ hoe).size]

theorem bounds_h {n cp : Nat} {k : IntKind} {H : Int} (h0 : 0 ≤ H) (h1 : H ≤ cp) (w : World) : (Instr.sliceBounds true n cp none (some (.int k H)) none).run P w = .ok (0, H.toNat, cp) w := by
  simp [Instr.sliceBounds, run_sliceBound, h0, h1]
theorem bounds_l {n cp : Nat} {k : IntKind} {L : Int} (h0 : 0 ≤ L) (h1 : L ≤ n) (w : World) : (Instr.sliceBounds true n cp (some (.int k L)) none none).run P w = .ok (L.toNat, n, cp) w := by
  simp [Instr.sliceBounds, run_sliceBound, h0, h1]
theorem bounds_lh {n cp : Nat} {k k' : IntKind} {L H : Int} (h0 : 0 ≤ L) (h1 : L ≤ H) (h2 : H ≤ cp) (w : World) : (Instr.sliceBounds true n cp (some (.int k L)) (some (.int k' H)) none).run P w = .ok (L.toNat, H.toNat, cp) w := by
  have e : ((H.toNat : Nat) : Int) = H := Int.toNat_of_nonneg (by omega)
  simp [Instr.sliceBounds, run_sliceBound, h0, h1, h2, e, (by omega : 0 ≤ H)]
theorem bounds_hm {n cp : Nat} {k k' : IntKind} {H M : Int} (h0 : 0 ≤ H) (h1 : H ≤ M) (h2 : M ≤ cp) (w : World) : (Instr.sliceBounds true n cp none (some (.int k H)) (some (.int k' M))).run P w = .ok (0, H.toNat, M.toNat) w := by
  have e : ((M.toNat : Nat) : Int) = M := Int.toNat_of_nonneg (by omega)
  simp [Instr.sliceBounds, run_sliceBound, h0, h1, h2, e, (by omega : 0 ≤ M)]

/-- A slice over a block of the frame's own, resliced. -/
theorem ref_sliced {id off n : Nat} {full : Bool} {v : Value} (hx : RepV c (.ref id off n full) v) {k : Nat} (hk : 0 < k) (hs : c.sh id = some k) (l hh m : Nat) (f' : Bool) (hlh : l ≤ hh) (hle : hh ≤ n) :
    ∃ a cp, v = .slice a n cp ∧ n ≤ cp ∧ (hh ≤ m → m ≤ cp → (f' = true → full = true ∧ m = cp) → RepV c (.ref id (off + l) (hh - l) f') (sliced a l hh m k)) := by
  simp only [RepV] at hx ⊢
  obtain ⟨a, cp, rfl, han, hx⟩ := hx
  obtain ⟨hn, hcap, hfull, ha⟩ := hx k hk hs
  refine ⟨a, cp, rfl, hn, fun hm1 hm2 hf => ⟨_, _, rfl, fun hq => ?_, fun k' hk' hs' => ?_⟩⟩
  · have h0 : a = none := by
      revert hq; split
      · exact fun h => h
      · cases a <;> simp
    have := han h0
    omega
  rw [hs] at hs'
  injection hs' with hs'
  subst hs'
  refine ⟨by omega, by omega, fun ht => ?_, fun h0 => ?_⟩
  · obtain ⟨hf1, hf2⟩ := hf ht
    have := hfull hf1
    omega
  · by_cases hml : m = l
    · have h00 : off + l = 0 := by omega
      rw [if_pos hml]
      have ho : off = 0 := by omega
      have hl : l = 0 := by omega
      rw [ha (.inr ho), ho, hl]
    · rw [if_neg hml]
      have : 0 < n ∨ off = 0 := by
        rcases h0 with h0 | h0
        · exact .inl (by omega)
        · exact .inr (by omega)
      rw [ha this]
      simp [Addr.add_off, Nat.add_mul]

theorem nils_sliced (hh s : Nat) (h0 : hh = 0) : sliced none 0 hh 0 s = .slice none 0 0 := by subst h0; simp [sliced]

/-- How an optional bound reads. -/
def RepO (c : Ctx) : Option IV → Option Value → Prop
  | none, none => True
  | some x, some v => RepV c x v
  | _, _ => False

theorem sliceV_sound (hT : TOK P T) (H : Hp c h) {t : TypeId} {x : IV} {v : Value} {lo hi mx : Option IV} {vlo vhi vmx : Option Value} (hx : RepV c x v)
    (hlo : RepO c lo vlo) (hhi : RepO c hi vhi) (hmx : RepO c mx vmx) (hp : (sliceV T h t x lo hi mx).2) :
    ∃ y, (Instr.sliceAt t v vlo vhi vmx).run P c.w = .ok y c.w ∧ RepV c (sliceV T h t x lo hi mx).1 y := by
  unfold sliceV at hp ⊢
  split at hp
  · rename_i k es kH HH
    obtain ⟨h0, h1, hon, he, hoe, hk⟩ := hp
    cases vlo <;> simp only [RepO] at hlo
    cases vmx <;> simp only [RepO] at hmx
    cases vhi <;> simp only [RepO, RepV] at hhi
    subst hhi
    have hx' := hx
    simp only [RepV] at hx'
    obtain ⟨a, n, cp, rfl, hn, hc, hm, han, hno, hr⟩ := hx'
    refine ⟨_, run_slice_ok hon he hoe hT a n cp _ _ _ _ _ _ (bounds_h h0 (by omega) _), ?_⟩
    have := sl_sliced hx (T (T t).elem).size 0 HH.toNat cp (by omega) (by omega) hk a n cp rfl (by omega) (by omega)
    simpa using this
  · rename_i k es kL LL
    obtain ⟨h0, h1, hon, he, hoe, hk⟩ := hp
    cases vhi <;> simp only [RepO] at hhi
    cases vmx <;> simp only [RepO] at hmx
    cases vlo <;> simp only [RepO, RepV] at hlo
    subst hlo
    have hx' := hx
    simp only [RepV] at hx'
    obtain ⟨a, n, cp, rfl, hn, hc, hm, han, hno, hr⟩ := hx'
    refine ⟨_, run_slice_ok hon he hoe hT a n cp _ _ _ _ _ _ (bounds_l h0 (by omega) _), ?_⟩
    have := sl_sliced hx (T (T t).elem).size LL.toNat n cp (by omega) (by omega) hk a n cp rfl (by omega) (by omega)
    rwa [take_all hn] at this
  · rename_i k es kL LL kH HH
    obtain ⟨h0, h01, h1, hon, he, hoe, hk⟩ := hp
    cases vmx <;> simp only [RepO] at hmx
    cases vlo <;> simp only [RepO, RepV] at hlo
    cases vhi <;> simp only [RepO, RepV] at hhi
    subst hlo hhi
    have hx' := hx
    simp only [RepV] at hx'
    obtain ⟨a, n, cp, rfl, hn, hc, hm, han, hno, hr⟩ := hx'
    refine ⟨_, run_slice_ok hon he hoe hT a n cp _ _ _ _ _ _ (bounds_lh h0 h01 (by omega) _), ?_⟩
    exact sl_sliced hx (T (T t).elem).size LL.toNat HH.toNat cp (by omega) (by omega) hk a n cp rfl (by omega) (by omega)
  · rename_i k es kH HH kM MM
    obtain ⟨h0, h01, h1, hon, he, hoe, hk⟩ := hp
    cases vlo <;> simp only [RepO] at hlo
    cases vhi <;> simp only [RepO, RepV] at hhi
    cases vmx <;> simp only [RepO, RepV] at hmx
    subst hhi hmx
    have hx' := hx
    simp only [RepV] at hx'
    obtain ⟨a, n, cp, rfl, hn, hc, hm, han, hno, hr⟩ := hx'
    refine ⟨_, run_slice_ok hon he hoe hT a n cp _ _ _ _ _ _ (bounds_hm h0 h01 (by omega) _), ?_⟩
    have := sl_sliced hx (T (T t).elem).size 0 HH.toNat MM.toNat (by omega) (by omega) hk a n cp rfl (by omega) (by omega)
    simpa using this
  · rename_i id off n full kH HH
    cases hb : h id with
    | none => simp [hb] at hp
    | some blk =>
      cases blk with
      | box ty cells => simp [hb] at hp
      | arr k ty es =>
        simp only [hb] at hp ⊢
        obtain ⟨h0, h1, hon, he, hoe, hk⟩ := hp
        cases vlo <;> simp only [RepO] at hlo
        cases vmx <;> simp only [RepO] at hmx
        cases vhi <;> simp only [RepO, RepV] at hhi
        subst hhi
        obtain ⟨cur, hheap, hsz, hcap, hk1, hle, hnoid, hR⟩ := H.blk id _ hb
        obtain ⟨a, cp, rfl, hn, hr⟩ := ref_sliced hx hk1 (by rw [H.sh, hb]; rfl) 0 HH.toNat (v := v) (m := (match v with | .slice _ _ cp => cp | _ => 0)) full (by omega) (by omega)
        refine ⟨_, run_slice_ok hon he hoe hT a n cp _ _ _ _ _ _ (bounds_h h0 (by omega) _), ?_⟩
        have := hr (by simp; omega) (by simp) (fun h => ⟨h, rfl⟩)
        simpa [hk] using this
  · rename_i id off n full kL LL
    cases hb : h id with
    | none => simp [hb] at hp
    | some blk =>
      cases blk with
      | box ty cells => simp [hb] at hp
      | arr k ty es =>
        simp only [hb] at hp ⊢
        obtain ⟨h0, h1, hon, he, hoe, hk⟩ := hp
        cases vhi <;> simp only [RepO] at hhi
        cases vmx <;> simp only [RepO] at hmx
        cases vlo <;> simp only [RepO, RepV] at hlo
        subst hlo
        obtain ⟨cur, hheap, hsz, hcap, hk1, hle, hnoid, hR⟩ := H.blk id _ hb
        obtain ⟨a, cp, rfl, hn, hr⟩ := ref_sliced hx hk1 (by rw [H.sh, hb]; rfl) LL.toNat n (v := v) (m := (match v with | .slice _ _ cp => cp | _ => 0)) full (by omega) (by omega)
        refine ⟨_, run_slice_ok hon he hoe hT a n cp _ _ _ _ _ _ (bounds_l h0 (by omega) _), ?_⟩
        have := hr (by simp; omega) (by simp) (fun h => ⟨h, rfl⟩)
        simpa [hk] using this
  · rename_i id off n full kH HH kM MM
    cases hb : h id with
    | none => simp [hb] at hp
    | some blk =>
      cases blk with
      | box ty cells => simp [hb] at hp
      | arr k ty es =>
        simp only [hb] at hp ⊢
        obtain ⟨h0, h01, h1, hon, he, hoe, hk⟩ := hp
        cases vlo <;> simp only [RepO] at hlo
        cases vhi <;> simp only [RepO, RepV] at hhi
        cases vmx <;> simp only [RepO, RepV] at hmx
        subst hhi hmx
        obtain ⟨cur, hheap, hsz, hcap, hk1, hle, hnoid, hR⟩ := H.blk id _ hb
        obtain ⟨a, cp, rfl, hn, hr⟩ := ref_sliced hx hk1 (by rw [H.sh, hb]; rfl) 0 HH.toNat (v := v) (m := MM.toNat) false (by omega) (by omega)
        refine ⟨_, run_slice_ok hon he hoe hT a n cp _ _ _ _ _ _ (bounds_hm h0 h01 (by omega) _), ?_⟩
        have := hr (by omega) (by omega) (fun h => by cases h)
        simpa [hk] using this
  · rename_i kH HH
    obtain ⟨h0, hon, he, hoe⟩ := hp
    cases vlo <;> simp only [RepO] at hlo
    cases vmx <;> simp only [RepO] at hmx
    cases vhi <;> simp only [RepO, RepV] at hhi
    subst hhi
    simp only [RepV] at hx ⊢
    subst hx
    exact ⟨_, run_slice_ok hon he hoe hT none 0 0 _ _ _ _ _ _ (bounds_h (by omega) (by omega) _), nils_sliced _ _ (by omega)⟩
  · rename_i kH HH kM MM
    obtain ⟨h0, h1, hon, he, hoe⟩ := hp
    cases vlo <;> simp only [RepO] at hlo
    cases vhi <;> simp only [RepO, RepV] at hhi
    cases vmx <;> simp only [RepO, RepV] at hmx
    subst hhi hmx
    simp only [RepV] at hx ⊢
    subst hx
    refine ⟨_, run_slice_ok hon he hoe hT none 0 0 _ _ _ _ _ _ (bounds_hm (by omega) (by omega) (by omega) _), ?_⟩
    subst h1
    exact nils_sliced _ _ (by omega)
  · rename_i kL LL
    obtain ⟨h0, hon, he, hoe⟩ := hp
    cases vhi <;> simp only [RepO] at hhi
    cases vmx <;> simp only [RepO] at hmx
    cases vlo <;> simp only [RepO, RepV] at hlo
    subst hlo
    simp only [RepV] at hx ⊢
    subst hx
    subst h0
    exact ⟨_, run_slice_ok hon he hoe hT none 0 0 _ _ _ _ _ _ (bounds_l (by omega) (by omega) _), nils_sliced _ _ rfl⟩
  · exact hp.elim

theorem lenV_sound (hT : TOK P T) (H : Hp c h) {t ty : TypeId} {x : IV} {v : Value} (hx : RepV c x v) (hp : (lenV T h t x).2) :
    ∃ y, (Builtin.len_ #[t] ty #[v]).run P c.w = .ok y c.w ∧ RepV c (lenV T h t x).1 y := by
  cases x with
  | sl k es =>
    simp only [lenV] at hp ⊢
    simp only [RepV] at hx ⊢
    obtain ⟨a, n, cp, rfl, hn, _⟩ := hx
    exact ⟨_, run_len_slice _ _ _ _ _ _ (by rw [elem_eq (hT t hp.1) hp.2]; exact (hT t hp.1).slice hp.2), by rw [hn]; rfl⟩
  | ref id off n full =>
    simp only [lenV] at hp ⊢
    obtain ⟨hon, he⟩ := hp
    simp only [RepV] at hx ⊢
    obtain ⟨a, cp, rfl, _⟩ := hx
    exact ⟨_, run_len_slice _ _ _ _ _ _ (by rw [elem_eq (hT t hon) he]; exact (hT t hon).slice he), rfl⟩
  | nils =>
    simp only [lenV] at hp ⊢
    simp only [RepV] at hx ⊢
    subst hx
    exact ⟨_, run_len_slice _ _ _ _ _ _ (by rw [elem_eq (hT t hp.1) hp.2]; exact (hT t hp.1).slice hp.2), rfl⟩
  | str s =>
    simp only [lenV] at hp ⊢
    simp only [RepV] at hx ⊢
    subst hx
    exact ⟨_, run_len_string _ _ _ _ ((hT t hp.1).str hp.2), rfl⟩
  | _ => simp [lenV] at hp

theorem nums_of : ∀ {l : List IV} {vs : List Value}, RepL c l vs → numsOnly l = true → ∃ xs : List Int, vs = xs.map (Value.int .i64) ∧ l = xs.map (IV.num .i64)
  | [], vs, h, _ => ⟨[], by simpa [RepL] using h, rfl⟩
  | x :: l, vs, h, hn => by
    simp only [RepL] at h
    obtain ⟨v, r, rfl, hx, hl⟩ := h
    cases x with
    | num k n =>
      cases k <;> simp [numsOnly] at hn
      obtain ⟨xs, hr, hl'⟩ := nums_of hl hn
      simp only [RepV] at hx
      exact ⟨n :: xs, by simp [hr, hx], by simp [hl']⟩
    | _ => simp [numsOnly] at hn

theorem eqL_nums : ∀ (xs ys : List Int), eqL (xs.map (IV.num .i64)) (ys.map (IV.num .i64)) = decide (xs = ys)
  | [], [] => by simp [eqL]
  | [], _ :: _ => by simp [eqL]
  | _ :: _, [] => by simp [eqL]
  | x :: xs, y :: ys => by
    simp only [List.map_cons, eqL, eqL_nums xs ys, List.cons.injEq]
    by_cases h : x = y <;> simp [h]

theorem binV_sound (hT : TOK P T) {op : BinOp} {t : TypeId} {x y : IV} {u v : Value} (X Y : Operand) (hx : RepV c x u) (hy : RepV c y v) (hp : (binV T op t x y).2) :
    ∃ z, (do eqGuard op t X Y u v; binOp op t u v).run P c.w = .ok z c.w ∧ RepV c (binV T op t x y).1 z := by
  cases x with
  | num k a =>
    cases y with
    | num k' b =>
      simp only [RepV] at hx hy
      subst hx hy
      have he : ∀ op, (eqGuard op t X Y (.int k a) (.int k' b)) = pure () := fun op => by cases op <;> rfl
      cases op <;> simp only [binV] at hp ⊢ <;> first
        | exact hp.elim
        | (obtain ⟨rfl, hp2⟩ := hp; simp [he, binOp, Op.intDiv, hp2, RepV])
        | (subst hp; simp [he, binOp, Op.intArith, Op.intCmp, Op.intBits, bits, RepV])
    | _ => simp [binV] at hp
  | bool a =>
    cases y with
    | bool b =>
      simp only [RepV] at hx hy
      subst hx hy
      cases op <;> simp only [binV] at hp ⊢ <;> first
        | exact hp.elim
        | (simp only [eqGuard_at_bool, Sem.run_bind, Sem.run_pure, Result.andThen_ok, run_eql_bool _ _ _ _ ((hT t hp.1).bool hp.2)]; exact ⟨_, rfl, rfl⟩)
        | (simp only [eqGuard_at_bool, Sem.run_bind, Sem.run_pure, Result.andThen_ok, run_neq_bool _ _ _ _ ((hT t hp.1).bool hp.2)]; exact ⟨_, rfl, rfl⟩)
    | _ => simp [binV] at hp
  | agg l =>
    cases y with
    | agg l' =>
      simp only [RepV] at hx hy
      obtain ⟨vs, rfl, hl⟩ := hx
      obtain ⟨vs', rfl, hl'⟩ := hy
      have key : ∀ op, (T t).on = true → (T t).eqb = true → numsOnly l = true → numsOnly l' = true → l.length = (T t).size → l'.length = (T t).size →
          (eqGuard op t X Y (.agg ⟨vs⟩) (.agg ⟨vs'⟩)).run P c.w = .ok () c.w ∧ (Op.equal t (.agg ⟨vs⟩) (.agg ⟨vs'⟩)).run P c.w = .ok (eqL l l') c.w := by
        intro op h1 h2 h3 h4 h5 h6
        obtain ⟨xs, rfl, rfl⟩ := nums_of hl h3
        obtain ⟨ys, rfl, rfl⟩ := nums_of hl' h4
        rw [eqL_nums]
        exact (hT t h1).eqg h2 op X Y xs ys c.w (by simpa using h5) (by simpa using h6)
      cases op <;> simp only [binV] at hp ⊢ <;> first
        | exact hp.elim
        | (obtain ⟨h1, h2, h3, h4, h5, h6⟩ := hp
           obtain ⟨k1, k2⟩ := key .eql h1 h2 h3 h4 h5 h6
           obtain ⟨k3, _⟩ := key .neq h1 h2 h3 h4 h5 h6
           simp [k1, k2, k3, binOp, RepV])
    | _ => simp [binV] at hp
  | sl k es =>
    cases y with
    | nils =>
      simp only [RepV] at hx hy
      obtain ⟨a, n, cp, rfl, hn, hc, hm, han, hno, hr⟩ := hx
      subst hy
      cases op <;> simp only [binV] at hp ⊢ <;> first
        | exact hp.elim
        | (obtain ⟨hon, he⟩ := hp
           cases hes : es.isEmpty with
           | true =>
             simp only [eqGuard_at_slice, Sem.run_bind, Sem.run_pure, Result.andThen_ok]
             cases a <;> simp [binOp, run_equal_slice_nil c.w t _ _ n cp ((hT t hon).slice he), RepV]
           | false =>
             have h0 : 0 < n := by rw [hn]; exact List.length_pos_iff.2 (by rintro rfl; simp at hes)
             obtain ⟨b, o, rfl, _⟩ := hr h0
             simp only [eqGuard_at_slice, Sem.run_bind, Sem.run_pure, Result.andThen_ok]
             simp [binOp, run_equal_slice_nil c.w t _ (some ⟨b, o, none⟩) n cp ((hT t hon).slice he), RepV])
    | _ => simp [binV] at hp
  | nils =>
    cases y with
    | nils =>
      simp only [RepV] at hx hy
      subst hx hy
      cases op <;> simp only [binV] at hp ⊢ <;> first
        | exact hp.elim
        | (obtain ⟨hon, he⟩ := hp
           simp only [eqGuard_at_slice, Sem.run_bind, Sem.run_pure, Result.andThen_ok]
           simp [binOp, run_equal_slice_nil c.w t _ none 0 0 ((hT t hon).slice he), RepV])
    | _ => simp [binV] at hp
  | _ => cases y <;> simp [binV] at hp


/-! ### structs built -/

def overV (l : List Value) (o : Nat) (cs : List Value) : List Value := l.take o ++ cs ++ l.drop (o + cs.length)

theorem RepL.lay {l : List IV} {vs : List Value} {cs : List IV} {us : List Value} (hl : RepL c l vs) (hc : RepL c cs us) (o : Nat) : RepL c (over l o cs) (overV vs o us) := by
  unfold Ideal.over overV
  rw [hc.length]
  exact ((hl.take o).append hc).append (hl.drop _)

theorem fold_over (cs : List Value) : ∀ (j o : Nat) (l : List Value), o + j + cs.length ≤ l.length →
    ((cs.zipIdx j).foldl (fun (acc : Array Value) (p : Value × Nat) => acc.setIfInBounds (o + p.2) p.1) ⟨l⟩) = ⟨overV l (o + j) cs⟩ := by
  induction cs with
  | nil => intro j o l h; simp [overV]
  | cons x cs ih =>
    intro j o l h
    simp only [List.zipIdx_cons, List.foldl_cons]
    have e : (⟨l⟩ : Array Value).setIfInBounds (o + j) x = ⟨l.set (o + j) x⟩ := by simp
    rw [e, ih (j + 1) o _ (by simp at h ⊢; omega)]
    congr 1
    unfold overV
    simp at h
    rw [show o + (j + 1) = o + j + 1 by omega]
    have h1 : (l.set (o + j) x).take (o + j + 1) = l.take (o + j) ++ [x] := by
      rw [List.take_succ_eq_append_getElem (by simp; omega)]
      simp [List.take_set_of_le]
    have h2 : (l.set (o + j) x).drop (o + j + 1 + cs.length) = l.drop (o + j + (x :: cs).length) := by
      rw [List.drop_set_of_lt (by omega)]
      congr 1
      simp; omega
    rw [h1, h2]
    simp

theorem cells_rep {x : IV} {v : Value} (hx : RepV c x v) (hs : solid x = true) : RepL c x.cells v.cells.toList := by
  have one : ∀ u : Value, v = u → u.cells = #[u] → x.cells = [x] → RepL c x.cells v.cells.toList := by
    intro u hu hc hxc
    subst hu
    rw [hxc, hc]
    simp only [RepL]
    exact ⟨v, [], rfl, hx, rfl⟩
  cases x with
  | agg l =>
    simp only [RepV] at hx
    obtain ⟨vs, rfl, hl⟩ := hx
    simpa [IV.cells, Value.cells] using hl
  | junk => simp [solid] at hs
  | opt b y => simp [solid] at hs
  | tup l => simp [solid] at hs
  | num k n => simp only [RepV] at hx; exact one _ hx rfl rfl
  | bool b => simp only [RepV] at hx; exact one _ hx rfl rfl
  | str b => simp only [RepV] at hx; exact one _ hx rfl rfl
  | nils => simp only [RepV] at hx; exact one _ hx rfl rfl
  | nilp => simp only [RepV] at hx; exact one _ hx rfl rfl
  | nilI => simp only [RepV] at hx; exact one _ hx rfl rfl
  | sl k es =>
    have h0 := hx
    simp only [RepV] at hx
    obtain ⟨a, n, cp, rfl, _⟩ := hx
    exact one _ rfl rfl rfl
  | ptr id off =>
    have h0 := hx
    simp only [RepV] at hx
    obtain ⟨a, rfl, _⟩ := hx
    exact one _ rfl rfl rfl
  | aptr id i off =>
    have h0 := hx
    simp only [RepV] at hx
    obtain ⟨a, rfl, _⟩ := hx
    exact one _ rfl rfl rfl
  | eptr k e off =>
    simp only [RepV] at hx
    obtain ⟨b, o, y, rfl, _⟩ := hx
    exact one _ rfl rfl rfl
  | ref id off n f =>
    have h0 := hx
    simp only [RepV] at hx
    obtain ⟨a, cp, rfl, _⟩ := hx
    exact one _ rfl rfl rfl
  | clo g caps =>
    simp only [RepV] at hx
    obtain ⟨cs, rfl, _⟩ := hx
    exact one _ rfl rfl rfl
  | ifc =>
    simp only [RepV] at hx
    obtain ⟨t, y, rfl⟩ := hx
    exact one _ rfl rfl rfl
  | anyB =>
    simp only [RepV] at hx
    obtain ⟨b, rfl⟩ := hx
    exact one _ rfl rfl rfl

end
end Go.Ideal
