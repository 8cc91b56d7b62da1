/- The caller's side is right: the step. -/
import Derived.Test.YtodeicbcacggdaaIdSc
set_option linter.unusedVariables false
set_option linter.unusedSimpArgs false
namespace Go.Ideal
open Go

theorem RepL_of_get {c : Ctx} : ∀ {l : List IV} {vs : List Value}, vs.length = l.length → (∀ i v, vs[i]? = some v → RepV c (l.getD i .junk) v) → RepL c l vs
  | [], vs, hl, _ => by simp only [RepL]; exact List.eq_nil_of_length_eq_zero (by simpa using hl)
  | x :: l, [], hl, _ => by simp at hl
  | x :: l, v :: vs, hl, h => by
    simp only [RepL]
    refine ⟨v, vs, rfl, by simpa using h 0 v rfl, RepL_of_get (by simpa using hl) (fun i u hu => ?_)⟩
    have := h (i + 1) u (by simpa using hu)
    simpa using this

theorem lkHS_mem : ∀ {H : List (Nat × HSpec)} {f : Nat} {sp : HSpec}, lkHS H f = some sp → (f, sp) ∈ H
  | [], f, sp, h => by simp [lkHS] at h
  | (j, t) :: H, f, sp, h => by
    simp only [lkHS] at h
    by_cases e : j = f
    · rw [if_pos e] at h; injection h with h; subst e h; simp
    · rw [if_neg e] at h; exact List.mem_cons_of_mem _ (lkHS_mem h)

theorem renL_length {r : Nat → Nat} : ∀ l : List IV, (renL r l).length = l.length
  | [] => rfl
  | x :: l => by simp [renL, renL_length l]

section
variable {P : Program} {F : Fr} {μ κ : Nat → Nat} {s : ISt} {a : Act} {w : World} {ops : List Oper} {o : Oper}

theorem lentI_mem {h : Nat → Option IBlk} : ∀ {m : List Bool} {l : List IV}, lentM h m l → ∀ i ∈ lentI m l, h i ≠ none
  | [], _, _, i, hi => by simp [lentI] at hi
  | true :: m, [], _, i, hi => by simp [lentI] at hi
  | false :: m, [], _, i, hi => by simp [lentI] at hi
  | false :: m, x :: l, hl, i, hi => lentI_mem (m := m) (l := l) (by simpa [lentM] using hl) i (by simpa [lentI] using hi)
  | true :: m, x :: l, hl, i, hi => by
    simp only [lentM] at hl
    simp only [lentI, List.mem_append] at hi
    rcases hi with hi | hi
    · exact allHere_mem hl.2.1 i hi
    · exact lentI_mem hl.2.2.2 i hi

theorem lendM_rep (R : RepS F μ κ s a w) {c1 : Ctx} (hle : (ctx F μ κ s.hp w).Le c1 (fun _ => True)) (hw : c1.w = w) {L : Nat → Prop} (hL : ∀ b, c1.av b → ¬ L b) :
    ∀ {m : List Bool} {l : List IV} {vs : List Value}, (∀ i ∈ lentI m l, L (μ i)) → lentM (lkH s.hp) m l → RepL (ctx F μ κ s.hp w) l vs → RepL c1 (lendM (lkH s.hp) m l) vs
  | [], l, vs, _, _, h => by simpa [lendM] using RepL.mono hle l vs (fun _ _ => trivial) h
  | true :: m, [], vs, _, _, h => by simpa [lendM, RepL] using h
  | false :: m, [], vs, _, _, h => by simpa [lendM, RepL] using h
  | false :: m, x :: l, vs, hi, hl, h => by
    simp only [lentM] at hl
    simp only [RepL, lendM] at h ⊢
    obtain ⟨v, r, hv, hx, hr⟩ := h
    have hi' : ∀ i ∈ lentI m l, L (μ i) := fun i h => hi i (by simpa [lentI] using h)
    exact ⟨v, r, hv, RepV.mono hle x v (fun _ _ => trivial) hx, lendM_rep R hle hw hL hi' hl hr⟩
  | true :: m, x :: l, vs, hi, hl, h => by
    simp only [lentM] at hl
    simp only [RepL, lendM] at h ⊢
    obtain ⟨v, r, hv, hx, hr⟩ := h
    have hi' : ∀ i ∈ lentI m l, L (μ i) := fun i h => hi i (by simp [lentI, h])
    refine ⟨v, r, hv, ?_, lendM_rep R hle hw hL hi' hl.2.2.2 hr⟩
    have := lend_rep R hx hl.1 L (fun id hm => hi id (by simp [lentI, mem_ids x hm]))
    refine RepV.mono (c := bare (fun b => avOf F μ s.hp b ∧ ¬ L b) w) (c' := c1) (ok := fun _ => False) ⟨fun _ h => h.elim, fun b hb hav => ⟨hle.av b hb hav, hL b hav⟩, by rw [hw]; exact Nat.le_refl _, fun b o' _ _ => by rw [hw]; rfl⟩ _ _ (fun i hm => ?_) this
    have := mem_ids _ hm
    rw [hl.2.2.1] at this
    simp at this

theorem hcall_step (R : RepS F μ κ s a w) {f : FuncId} {sp : HSpec} (hf : ∀ args hp, sp.pre args hp → HCall P f args (sm hp) (sp.val args hp) (sm (sp.hval args hp))) {all : List IV} {vs : List Value} (hall : RepL (ctx F μ κ s.hp w) all vs)
    {ids : List Nat} {cargs : List IV} {chp : List (Nat × IBlk)} (hlen : cargs.length = (lendM (lkH s.hp) sp.mask all).length)
    (hob : (mkHC1 sp o s all (lendM (lkH s.hp) sp.mask all) ids cargs chp).ob) :
    Calls P f ⟨vs⟩ w fun e w' => ∃ x μN κN, e = .returned x ∧ RepS F μN κN ⟨s.tm, (mkHC1 sp o s all (lendM (lkH s.hp) sp.mask all) ids cargs chp).hv ++ s.hp⟩ a w' ∧
      RepV (ctx F μN κN ((mkHC1 sp o s all (lendM (lkH s.hp) sp.mask all) ids cargs chp).hv ++ s.hp) w') (renV (bk ids (2000 + 16 * o.dst.getD 0)) (sp.val cargs chp)) x := by
  unfold mkHC1 at hob ⊢
  simp only at hob ⊢
  generalize hbase : 2000 + 16 * o.dst.getD 0 = base at *
  generalize hv2 : renV (bk ids base) (sp.val cargs chp) = v2 at *
  generalize hhv : renH (bk ids base) (sp.hval cargs chp) = hv at *
  obtain ⟨hlent, hhere, hdis, hfw, hpre, hbw, hkey, hflat⟩ := hob
  have hdis' : ∀ i ∈ lentI sp.mask all, i ∉ ids := by
    intro i hi
    have := List.all_eq_true.1 hdis i hi
    simpa using this
  have hpr := allHere_mem hhere
  let L : Nat → Prop := fun b => ∃ i ∈ lentI sp.mask all, μ i = b
  let B' : Nat → Prop := fun b => ∃ i ∈ ids, μ i = b
  have hLav : ∀ b, L b → avOf F μ s.hp b := by
    rintro b ⟨i, hi, rfl⟩
    exact .inr ⟨i, lentI_mem hlent i hi, rfl⟩
  have hltw : ∀ i, lkH s.hp i ≠ none → μ i < w.heap.size := by
    intro i hi
    cases hb : lkH s.hp i with
    | none => exact absurd hb hi
    | some b => exact lt_of_own R hb
  have hnotA : ∀ i, lkH s.hp i ≠ none → ¬ F.A (μ i) := by
    intro i hi
    cases hb : lkH s.hp i with
    | none => exact absurd hb hi
    | some b => exact (R.own i b hb).2.1
  have havlt : ∀ b, avOf F μ s.hp b → b < w.heap.size := by
    rintro b (h | ⟨i, hi, rfl⟩)
    · exact Nat.lt_of_lt_of_le (F.hA b h) R.chg.size
    · exact hltw i hi
  let F1 : Fr := { A := fun b => avOf F μ s.hp b ∧ ¬ B' b ∧ ¬ L b, B0 := B', w0 := w, N := F.N, hAB := fun b h => h.2.1, hA := fun b h => havlt b h.1, hB := fun b h => Exists.elim h (fun i hi => hi.2 ▸ hltw i (hpr i hi.1)), μ0 := μ, κ0 := κ, hN := F.hN }
  have hsub : ∀ i, lkH (subHp (lkH s.hp) ids) i = if i ∈ ids then lkH s.hp i else none := fun i => lkH_sub
  have hle1 : (ctx F μ κ s.hp w).Le (ctx F1 μ κ (subHp (lkH s.hp) ids) w) (fun _ => True) := by
    refine ⟨fun i _ => ?_, fun b _ hav => ?_, Nat.le_refl _, fun _ _ _ _ => rfl⟩
    · by_cases hi : i ∈ ids
      · right; exact ⟨by show (lkH _ i).map _ = (lkH _ i).map _; rw [hsub, if_pos hi], rfl, rfl⟩
      · left; show (lkH _ i).map _ = none; rw [hsub, if_neg hi]; rfl
    · rcases hav with h | ⟨i, hi, rfl⟩
      · exact h.1
      · rw [hsub] at hi
        by_cases hm : i ∈ ids
        · exact .inr ⟨i, hpr i hm, rfl⟩
        · rw [if_neg hm] at hi; exact absurd rfl hi
  have hL1 : ∀ b, (ctx F1 μ κ (subHp (lkH s.hp) ids) w).av b → ¬ L b := by
    rintro b (h | ⟨i, hi, rfl⟩)
    · exact h.2.2
    · rintro ⟨j, hj, e⟩
      rw [hsub] at hi
      by_cases hm : i ∈ ids
      · have := R.inj j i (lentI_mem hlent j hj) (hpr i hm) e
        exact hdis' j hj (this ▸ hm)
      · rw [if_neg hm] at hi; exact absurd rfl hi
  have has : RepL (ctx F1 μ κ (subHp (lkH s.hp) ids) w) (lendM (lkH s.hp) sp.mask all) vs :=
    lendM_rep R hle1 rfl hL1 (fun i hi => ⟨i, hi, rfl⟩) hlent hall
  have RH1 : RepH F1 μ κ (subHp (lkH s.hp) ids) w := by
    refine ⟨Chg.refl _ _, fun i j hi hj e => ?_, fun id blk hb => ?_, fun _ _ _ => ⟨rfl, rfl⟩⟩
    · rw [hsub] at hi hj
      by_cases h1 : i ∈ ids
      · by_cases h2 : j ∈ ids
        · exact R.inj i j (hpr i h1) (hpr j h2) e
        · rw [if_neg h2] at hj; exact absurd rfl hj
      · rw [if_neg h1] at hi; exact absurd rfl hi
    · rw [hsub] at hb
      by_cases h1 : id ∈ ids
      · rw [if_pos h1] at hb
        exact ⟨RepB.mono hle1 rfl rfl rfl (fun _ => rfl) (fun _ _ _ _ _ => trivial) (R.own id blk hb).1, fun h => h.2.1 ⟨id, h1, rfl⟩, .inl ⟨id, h1, rfl⟩⟩
      · rw [if_neg h1] at hb; cases hb
  obtain ⟨inj2, pres2, own2⟩ := sle_own (s := ⟨enumT 0 (lendM (lkH s.hp) sp.mask all), subHp (lkH s.hp) ids⟩) (s' := ⟨enumT 0 cargs, sm chp⟩) RH1 hfw
  let F2 : Fr := { F1 with μ0 := fun i => μ (fwd ids i), κ0 := fun i => κ (fwd ids i) }
  have RH2 : RepH F2 (fun i => μ (fwd ids i)) (fun i => κ (fwd ids i)) (sm chp) w := ⟨Chg.refl _ _, inj2, own2, fun _ _ _ => ⟨rfl, rfl⟩⟩
  have hcargs : RepL (ctx F2 (fun i => μ (fwd ids i)) (fun i => κ (fwd ids i)) (sm chp) w) cargs vs := by
    refine RepL_of_get (by rw [has.length, hlen]) (fun i v hi => ?_)
    have hlt : i < (lendM (lkH s.hp) sp.mask all).length := by
      rw [← has.length]
      exact (List.getElem?_eq_some_iff.1 hi).1
    obtain ⟨u, hu, hr⟩ := has.get i hlt
    rw [hi] at hu
    injection hu with hu
    subst hu
    have hc := convTm_lk hfw.1 i
    rw [lkT_enum _ 0 i (Nat.zero_le _), lkT_enum _ 0 i (Nat.zero_le _), Nat.sub_zero] at hc
    exact conv_rep (s := ⟨enumT 0 (lendM (lkH s.hp) sp.mask all), subHp (lkH s.hp) ids⟩) (s' := ⟨enumT 0 cargs, sm chp⟩) RH1 hfw _ _ v hc hr
  refine (hf cargs chp hpre F2 _ _ vs RH2 hcargs).mono ?_
  rintro e w' ⟨x, μ', κ', rfl, RH3, hv3⟩
  have hchg : Chg B' w w' := RH3.chg
  obtain ⟨inj4, pres4, own4⟩ := sle_own (s := ⟨[(0, sp.val cargs chp)], sm (sp.hval cargs chp)⟩) (s' := ⟨[(0, v2)], sm hv⟩) RH3 hbw
  have hc4 : conv (lkH (sm (sp.hval cargs chp))) (lkH (sm hv)) (bwd ids base) (sp.val cargs chp) v2 := by
    have := hbw.1.1
    simpa [lkT] using this
  have hv4 := conv_rep (s := ⟨[(0, sp.val cargs chp)], sm (sp.hval cargs chp)⟩) (s' := ⟨[(0, v2)], sm hv⟩) RH3 hbw _ _ x hc4 hv3
  simp only at inj4 pres4 own4 hv4
  have pass : ∀ i b, lkH (sm hv) i = some b → i ∈ ids → μ' (bwd ids base i) = μ i ∧ κ' (bwd ids base i) = κ i ∧ (lkH s.hp i).map IBlk.shape = some b.shape := by
    intro i b hb hi
    rcases keyOK_mem hkey i b hb with ⟨_, q1, q2, q3, q4⟩ | ⟨q, _⟩
    · have := RH3.pin _ q2 q3
      refine ⟨this.1.trans ?_, this.2.trans ?_, q4⟩
      · show μ (fwd ids (bwd ids base i)) = μ i; rw [q1]
      · show κ (fwd ids (bwd ids base i)) = κ i; rw [q1]
    · exact absurd hi q
  have fresh : ∀ i b, lkH (sm hv) i = some b → i ∉ ids → 2000 ≤ i ∧ mentTm i s.tm = false ∧ mentHp i s.hp = false := by
    intro i b hb hi
    rcases keyOK_mem hkey i b hb with ⟨q, _⟩ | ⟨_, q1, q2, q3, _⟩
    · exact absurd q hi
    · exact ⟨q1, q2, q3⟩
  have lkN : ∀ i, lkH (sm hv ++ nones ids ++ s.hp) i = match lkH (sm hv) i with | some b => some b | none => if i ∈ ids then none else lkH s.hp i := by
    intro i
    rw [List.append_assoc, lkH_sm, lkH_nones]
    cases lkH (sm hv) i <;> rfl
  let μN : Nat → Nat := fun i => if lkH (sm hv) i = none then μ i else μ' (bwd ids base i)
  let κN : Nat → Nat := fun i => if lkH (sm hv) i = none then κ i else κ' (bwd ids base i)
  have μK : ∀ i b, lkH (sm hv) i = some b → μN i = μ' (bwd ids base i) ∧ κN i = κ' (bwd ids base i) := by
    intro i b hb
    have : lkH (sm hv) i ≠ none := by rw [hb]; simp
    exact ⟨if_neg this, if_neg this⟩
  have μO : ∀ i, lkH (sm hv) i = none → μN i = μ i ∧ κN i = κ i := fun i hb => ⟨if_pos hb, if_pos hb⟩
  have hK : ∀ i b, lkH (sm hv) i = some b → lkH (sm hv ++ nones ids ++ s.hp) i = some b := fun i b hb => by rw [lkN, hb]
  have hO : ∀ i, lkH (sm hv) i = none → lkH (sm hv ++ nones ids ++ s.hp) i ≠ none → i ∉ ids ∧ lkH s.hp i ≠ none ∧ lkH (sm hv ++ nones ids ++ s.hp) i = lkH s.hp i := by
    intro i h1 h2
    have e := lkN i
    rw [h1] at e
    simp only at e
    by_cases hi : i ∈ ids
    · rw [if_pos hi] at e; exact absurd e h2
    · rw [if_neg hi] at e; exact ⟨hi, e ▸ h2, e⟩
  have frB : ∀ i b, lkH (sm hv) i = some b → (∃ j ∈ ids, μ j = μN i) ∨ w.heap.size ≤ μN i := by
    intro i b hb
    rw [(μK i b hb).1]
    exact (own4 i b hb).2.2
  have hne : ∀ {i}, lkH (sm hv) i ≠ none → ∃ b, lkH (sm hv) i = some b := by
    intro i h
    cases hb : lkH (sm hv) i with
    | none => exact absurd hb h
    | some b => exact ⟨b, rfl⟩
  have hold : ∀ i, lkH s.hp i ≠ none → i ∉ ids → ¬ B' (μ i) := by
    rintro i hi hni ⟨j, hj, e⟩
    have := R.inj j i (hpr j hj) hi e
    exact hni (this ▸ hj)
  have hle2 : (ctx F μ κ s.hp w).Le (ctx F μN κN (sm hv ++ nones ids ++ s.hp) w') (fun i => lkH (sm hv) i ≠ none → i ∈ ids) := by
    refine ⟨fun i hi => ?_, fun b hb hav => ?_, hchg.size, fun b o' hb hav => ?_⟩
    · cases hbi : lkH (sm hv) i with
      | some b =>
        have him := hi (by rw [hbi]; simp)
        obtain ⟨p1, p2, p3⟩ := pass i b hbi him
        refine .inr ⟨?_, (μK i b hbi).1.trans p1, (μK i b hbi).2.trans p2⟩
        show (lkH _ i).map _ = (lkH _ i).map _
        rw [hK i b hbi, p3]; rfl
      | none =>
        have e := lkN i
        rw [hbi] at e
        simp only at e
        by_cases him : i ∈ ids
        · left; show (lkH _ i).map _ = none; rw [e, if_pos him]; rfl
        · right; exact ⟨by show (lkH _ i).map _ = (lkH _ i).map _; rw [e, if_neg him], (μO i hbi).1, (μO i hbi).2⟩
    · rcases hav with h | ⟨i, hi, rfl⟩
      · exact .inl h
      · cases hbi : lkH (sm hv) i with
        | some b' =>
          rcases frB i b' hbi with ⟨j, hj, e⟩ | h
          · exact .inr ⟨j, hpr j hj, e⟩
          · exact absurd hb (Nat.not_lt.2 h)
        | none =>
          obtain ⟨_, h2, _⟩ := hO i hbi hi
          rw [(μO i hbi).1]
          exact .inr ⟨i, h2, rfl⟩
    · exact World.cell?_of_block (hchg.block b hb (fun hB => hav (by obtain ⟨i, hi, e⟩ := hB; exact .inr ⟨i, hpr i hi, e⟩)))
  have okT : ∀ i id, (lkT s.tm i).ment id = true → lkH (sm hv) id ≠ none → id ∈ ids := by
    intro i id hm hk
    obtain ⟨b, hb⟩ := hne hk
    apply Classical.byContradiction
    intro hni
    have := mentTm_lk (fresh id b hb hni).2.1 i
    rw [this] at hm
    cases hm
  have hW : WLe (ctx F2 (fun i => μ' (bwd ids base i)) (fun i => κ' (bwd ids base i)) (sm hv) w') (ctx F μN κN (sm hv ++ nones ids ++ s.hp) w') (fun i => (lkH (sm hv) i).isSome = true) := by
    intro i hi
    cases hb : lkH (sm hv) i with
    | none => rw [hb] at hi; cases hi
    | some b => exact .inr ⟨by show (lkH _ i).map _ = (lkH _ i).map _; rw [hK i b hb, hb], (μK i b hb).1, (μK i b hb).2⟩
  have hle4 : lentI sp.mask all = [] → (ctx F2 (fun i => μ' (bwd ids base i)) (fun i => κ' (bwd ids base i)) (sm hv) w').Le (ctx F μN κN (sm hv ++ nones ids ++ s.hp) w') (fun i => (lkH (sm hv) i).isSome = true) := by
    intro hnil
    have hLno : ∀ b, ¬ L b := by rintro b ⟨i, hi, _⟩; rw [hnil] at hi; simp at hi
    refine ⟨hW, fun b hb hav => ?_, Nat.le_refl _, fun _ _ _ _ => rfl⟩
    rcases hav with h | ⟨i, hi, rfl⟩
    · refine .inl ⟨.inl h, ?_, hLno b⟩
      rintro ⟨j, hj, e⟩
      exact hnotA j (hpr j hj) (e ▸ h)
    · cases hbi : lkH (sm hv) i with
      | some b' => exact .inr ⟨i, by rw [hbi]; simp, ((μK i b' hbi).1).symm⟩
      | none =>
        obtain ⟨h1, h2, _⟩ := hO i hbi hi
        rw [(μO i hbi).1]
        exact .inl ⟨.inr ⟨i, h2, rfl⟩, hold i h2 h1, hLno _⟩
  refine ⟨x, μN, κN, rfl, ?_, ?_⟩
  · refine R.move (fun i => lkH (sm hv) i ≠ none → i ∈ ids) ?_ ?_ ?_ hle2 okT ?_
    · refine R.chg.trans hchg (fun _ h => h) (fun b hb hB => ?_)
      obtain ⟨i, hi, rfl⟩ := hB
      cases hbi : lkH s.hp i with
      | none => exact absurd hbi (hpr i hi)
      | some b =>
        rcases (R.own i b hbi).2.2 with h | h
        · exact h
        · omega
    · intro i j hi hj e
      cases hbi : lkH (sm hv) i with
      | some b =>
        cases hbj : lkH (sm hv) j with
        | some b' =>
          rw [(μK i b hbi).1, (μK j b' hbj).1] at e
          exact inj4 i j (by rw [hbi]; simp) (by rw [hbj]; simp) e
        | none =>
          obtain ⟨h1, h2, _⟩ := hO j hbj hj
          rw [(μO j hbj).1] at e
          rcases frB i b hbi with ⟨q, hq, e'⟩ | h
          · exact absurd ⟨q, hq, e'.trans e⟩ (hold j h2 h1)
          · rw [e] at h; exact absurd (hltw j h2) (Nat.not_lt.2 h)
      | none =>
        obtain ⟨h1, h2, _⟩ := hO i hbi hi
        rw [(μO i hbi).1] at e
        cases hbj : lkH (sm hv) j with
        | some b' =>
          rcases frB j b' hbj with ⟨q, hq, e'⟩ | h
          · exact absurd ⟨q, hq, e'.trans e.symm⟩ (hold i h2 h1)
          · rw [← e] at h; exact absurd (hltw i h2) (Nat.not_lt.2 h)
        | none =>
          obtain ⟨h3, h4, _⟩ := hO j hbj hj
          rw [(μO j hbj).1] at e
          exact R.inj i j h2 h4 e
    · intro id blk hb
      cases hbi : lkH (sm hv) id with
      | some b =>
        have := hK id b hbi
        rw [this] at hb
        injection hb with hb
        subst hb
        obtain ⟨o1, o2, o3⟩ := own4 id b hbi
        refine ⟨?_, ?_, ?_⟩
        · rcases hflat with hnil | ⟨_, hfl⟩
          · refine RepB.mono (hle4 hnil) (μK id b hbi).1 (μK id b hbi).2 rfl (fun _ => rfl) (fun ty cells hbe i hi => ?_) o1
            subst hbe
            exact convHp_box hbw.2.1 hbi hi
          · have hfb := flatBs_mem hfl id b hbi
            cases b with
            | box ty cells =>
              obtain ⟨cs, q1, q2, q3⟩ := o1
              refine ⟨cs, by show w'.heap[μN id]? = _; rw [(μK id _ hbi).1]; exact q1, noSlL_any hW cells cs hfb (fun i hi => convHp_box hbw.2.1 hbi hi) q2, q3⟩
            | arr k ty es =>
              obtain ⟨cur, q1, q2, q3, q4, q5, q6, q7⟩ := o1
              have eμ := (μK id _ hbi).1
              have eκ := (μK id _ hbi).2
              refine ⟨cur, by show w'.heap[μN id]? = _; rw [eμ]; exact q1, by show _ = κN id * k; rw [eκ]; exact q2, by show κN id ≤ _; rw [eκ]; exact q3, q4, by show _ ≤ κN id; rw [eκ]; exact q5, q6, ?_⟩
              obtain ⟨xs, hX, hcl⟩ := q7.toX
              show RepR _ k (μN id) 0 es
              rw [eμ]
              exact (noSlX_any hW es xs hfb (fun i hi => by rw [q6 i] at hi; cases hi) hX).toR hcl
        · intro hA
          rcases frB id b hbi with ⟨j, hj, e⟩ | h
          · exact hnotA j (hpr j hj) (e ▸ hA)
          · have h1 := F.hA _ hA
            have h2 := R.chg.size
            omega
        · rcases frB id b hbi with ⟨j, hj, e⟩ | h
          · rw [← e]
            cases hbj : lkH s.hp j with
            | none => exact absurd hbj (hpr j hj)
            | some bj => exact (R.own j bj hbj).2.2
          · exact .inr (Nat.le_trans R.chg.size h)
      | none =>
        obtain ⟨h1, h2, h3⟩ := hO id hbi (by rw [hb]; simp)
        rw [h3] at hb
        obtain ⟨o1, o2, o3⟩ := R.own id blk hb
        rw [(μO id hbi).1]
        have hl := lt_of_own R hb
        have hblk := hchg.block _ hl (hold id h2 h1)
        refine ⟨RepB.mono hle2 (μO id hbi).1 (μO id hbi).2 hblk (fun o' => World.cell?_of_block hblk) (fun ty cells hbe i hi => ?_) o1, o2, o3⟩
        intro hk
        obtain ⟨b, hb'⟩ := hne hk
        apply Classical.byContradiction
        intro hni
        have := mentHp_lk (fresh i b hb' hni).2.2 id ty cells (hbe ▸ hb)
        rw [this] at hi
        cases hi
    · intro i h1 h2
      cases hbi : lkH (sm hv) i with
      | none => exact μO i hbi
      | some b =>
        by_cases hi : i ∈ ids
        · obtain ⟨p1, p2, _⟩ := pass i b hbi hi
          exact ⟨(μK i b hbi).1.trans p1, (μK i b hbi).2.trans p2⟩
        · have := (fresh i b hbi hi).1
          omega
  · rcases hflat with hnil | ⟨hfl, _⟩
    · exact RepV.mono (hle4 hnil) v2 x (fun i hi => conv_ment _ _ hc4 hi) hv4
    · exact noSl_any hW v2 x hfl (fun i hi => conv_ment _ _ hc4 hi) hv4

end
end Go.Ideal
