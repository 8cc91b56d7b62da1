/- Every operation; regions in the text's order; code; functions. -/
import Derived.Test.YtodeicbcacggdaaIdLc
set_option linter.unusedVariables false
set_option linter.unusedSimpArgs false
namespace Go.Ideal
open Go

def badE : Eff := { ob := False, tv := [], hv := [] }

def effOp (T : Nat → TD) (G : List (Nat × PSpec)) (N : Nat) (ops : List Oper) (o : Oper) (s : ISt) : Eff :=
  match o.op with
  | .pick c x y => effPick N ops o c x y s
  | .alloc t => effAlloc T N ops o t s
  | .box t x => effBox T N ops o t x s
  | .buildSlice t n parts => effBuildSlice T N ops o t n parts.toList s
  | .makeSlice t l c => effMake T N ops o t l c s
  | .store t p x => effStore T N ops o t p x s
  | .call { callee := .builtin .append, args := args, argTypes := tys } =>
    match args.toList, tys.toList with
    | [sx, x], [t, t'] => if t = t' then effAppend T N ops o t sx x s else effZeros T N ops o t t' sx x s
    | _, _ => badE
  | .call { callee := .builtin .clear, args := args, argTypes := tys } =>
    match args.toList, tys.toList with
    | [x], [t] => effClear T N ops o t x s
    | _, _ => badE
  | .call { callee := .value fx, args := args, .. } => effCall G N ops o fx args.toList s
  | _ => effPure T N ops o s

/-- What a list of operations asks, one after the other, and then K of the state that they leave. -/
def vcOps (T : Nat → TD) (G : List (Nat × PSpec)) (N : Nat) (ops : List Oper) : List Oper → ISt → (ISt → Prop) → Prop
  | [], s, K => K s
  | o :: l, s, K => (effOp T G N ops o s).ob ∧ vcOps T G N ops l (s.app (effOp T G N ops o s)) K

section
variable {P : Program} {T : Nat → TD} {G : List (Nat × PSpec)} {F : Fr}

theorem effOp_sound (hT : TOK P T) (hG : GOK P G) {ops : List Oper} {o : Oper} {s : ISt} (hob : (effOp T G F.N ops o s).ob) : StepOK P F ops o s (effOp T G F.N ops o s) := by
  unfold effOp at hob ⊢
  split at hob
  · rename_i c x y ho; exact effPick_sound ops o ho s hob
  · rename_i t ho; exact effAlloc_sound hT ho hob
  · rename_i t x ho; exact effBox_sound ho hob
  · rename_i t n parts ho; exact effBuildSlice_sound hT ho hob
  · rename_i t l c ho; exact effMake_sound hT ho hob
  · rename_i t p x ho; exact effStore_sound hT ho hob
  · rename_i args tys ho
    obtain ⟨args⟩ := args
    obtain ⟨tys⟩ := tys
    split at hob
    · rename_i sx x t t' h1 h2
      simp only at h1 h2
      subst h1 h2
      split at hob
      · rename_i ht
        subst ht
        simp only [if_true]
        exact effAppend_sound hT ho hob
      · rename_i ht
        simp only [if_neg ht]
        exact effZeros_sound hT ho hob
    · exact hob.elim
  · rename_i args tys ho
    obtain ⟨args⟩ := args
    obtain ⟨tys⟩ := tys
    split at hob
    · rename_i x t h1 h2
      simp only at h1 h2
      subst h1 h2
      exact effClear_sound hT ho hob
    · exact hob.elim
  · rename_i fx args tys ho; exact effCall_sound hG ho hob
  · exact effPure_sound hT ops o s hob

theorem wpList_vc (hT : TOK P T) (hG : GOK P G) {ops : List Oper} {Q : Exit → Act → World → Prop} {K : ISt → Prop} (hK : ∀ s μ κ a w, RepS F μ κ s a w → K s → Q .normal a w) :
    ∀ (l : List Oper) (s : ISt), vcOps T G F.N ops l s K → ∀ μ κ a w, RepS F μ κ s a w → wpList P ⟨ops⟩ Q l a w
  | [], s, h, μ, κ, a, w, R => hK s μ κ a w R h
  | o :: l, s, h, μ, κ, a, w, R => by
    simp only [vcOps] at h
    unfold wpList
    exact effOp_sound hT hG h.1 μ κ a w R Q _ (fun μ' κ' a' w' R' => wpList_vc hT hG hK l _ h.2 μ' κ' a' w' R')

/-- Code, at an ideal state. -/
def IWp (P : Program) (F : Fr) (c : Code) (s : ISt) (Q : Exit → ISt → Prop) : Prop :=
  ∀ μ κ a w, RepS F μ κ s a w → c.wp P (fun e a' w' => ∃ μ' κ' s', RepS F μ' κ' s' a' w' ∧ Q e s') a w

theorem iwp_region (hT : TOK P T) (hG : GOK P G) {id : Nat} {ops : Array Oper} {s : ISt} {Q : Exit → ISt → Prop} (h : vcOps T G F.N ops.toList ops.toList s (Q .normal)) : IWp P F (.region id ops false) s Q := by
  intro μ κ a w R
  refine wp_region_list ?_
  have : ops = ⟨ops.toList⟩ := by simp
  rw [this]
  exact wpList_vc hT hG (fun s' μ' κ' a' w' R' hK => ⟨μ', κ', s', R', hK⟩) _ _ h μ κ a w R

theorem iwp_mono {c : Code} {s : ISt} {Q Q' : Exit → ISt → Prop} (h : IWp P F c s Q) (hq : ∀ e s, Q e s → Q' e s) : IWp P F c s Q' :=
  fun μ κ a w R => Go.wp_mono (h μ κ a w R) fun e a' w' ⟨μ', κ', s', R', q⟩ => ⟨μ', κ', s', R', hq _ _ q⟩

def seqQ (P : Program) (F : Fr) (y : Code) (Q : Exit → ISt → Prop) : Exit → ISt → Prop
  | .normal, s => IWp P F y s Q
  | e, s => Q e s
theorem iwp_seq {x y : Code} {s : ISt} {Q : Exit → ISt → Prop} (h : IWp P F x s (seqQ P F y Q)) : IWp P F (.seq x y) s Q := by
  intro μ κ a w R
  refine wp_seq (Go.wp_mono (h μ κ a w R) ?_)
  rintro e a' w' ⟨μ', κ', s', R', q⟩
  cases e with
  | normal => exact q μ' κ' a' w' R'
  | _ => exact ⟨μ', κ', s', R', q⟩

theorem iwp_skip {s : ISt} {Q : Exit → ISt → Prop} (h : Q .normal s) : IWp P F .skip s Q := fun μ κ a w R => wp_skip ⟨μ, κ, s, R, h⟩
theorem iwp_ret {s : ISt} {Q : Exit → ISt → Prop} (h : Q .ret s) : IWp P F .ret s Q := fun μ κ a w R => wp_ret ⟨μ, κ, s, R, h⟩
theorem iwp_exit {id : Nat} {s : ISt} {Q : Exit → ISt → Prop} (h : Q (.exit id) s) : IWp P F (.exit id) s Q := fun μ κ a w R => wp_exit ⟨μ, κ, s, R, h⟩

def blockQ (id : Nat) (Q : Exit → ISt → Prop) : Exit → ISt → Prop
  | .exit id', s => if id' = id then Q .normal s else Q (.exit id') s
  | e, s => Q e s
theorem iwp_block {id : Nat} {c : Code} {s : ISt} {Q : Exit → ISt → Prop} (h : IWp P F c s (blockQ id Q)) : IWp P F (.block id c) s Q := by
  intro μ κ a w R
  refine wp_block (Go.wp_mono (h μ κ a w R) ?_)
  rintro e a' w' ⟨μ', κ', s', R', q⟩
  cases e with
  | exit id' =>
    simp only [blockQ, Exit.inBlock] at q ⊢
    split
    · rename_i h; rw [if_pos h] at q; exact ⟨μ', κ', s', R', q⟩
    · rename_i h; rw [if_neg h] at q; exact ⟨μ', κ', s', R', q⟩
  | _ => exact ⟨μ', κ', s', R', q⟩

theorem iwp_cond {c : Operand} {x y : Code} {s : ISt} {Q : Exit → ISt → Prop} {b : Bool} (hc : opI s.tm c = .bool b) (ht : b = true → IWp P F x s Q) (hf : b = false → IWp P F y s Q) : IWp P F (.cond c x y) s Q := by
  intro μ κ a w R
  have hr := opI_rep R c
  rw [hc] at hr
  simp only [RepV] at hr
  exact wp_cond_split hr (fun h => ht h μ κ a w R) (fun h => hf h μ κ a w R)

theorem iwp_cond_any {c : Operand} {x y : Code} {s : ISt} {Q : Exit → ISt → Prop} (hc : opI s.tm c = .anyB) (ht : IWp P F x s Q) (hf : IWp P F y s Q) : IWp P F (.cond c x y) s Q := by
  intro μ κ a w R
  have hr := opI_rep R c
  rw [hc] at hr
  simp only [RepV] at hr
  obtain ⟨b, hr⟩ := hr
  exact wp_cond_split hr (fun h => ht μ κ a w R) (fun h => hf μ κ a w R)

/-- A loop: what holds at each round's head, by a number that goes down. -/
theorem iwp_loop {c : Code} {s : ISt} {Q : Exit → ISt → Prop} (I : Nat → ISt → Prop) (n : Nat) (h0 : I n s)
    (round : ∀ n s, I n s → IWp P F c s (fun e s' => match e with | .normal => ∃ m, m < n ∧ I m s' | e => Q e s')) : IWp P F (.loop c) s Q := by
  intro μ κ a w R b k cs
  have key : ∀ n μ κ s a w, I n s → RepS F μ κ s a w →
      ∃ e a' w', (∃ μ' κ' s', RepS F μ' κ' s' a' w' ∧ Q e s') ∧ Arrives P (lone (b.at a (.code c :: .inLoop c :: k)) cs w) b k cs e a' w' := by
    intro n
    induction n using Nat.strongRecOn with
    | _ n ih =>
      intro μ κ s a w hI R
      obtain ⟨e, a₁, w₁, ⟨μ', κ', s', R', hq⟩, harr⟩ := round n s hI μ κ a w R b (.inLoop c :: k) cs
      cases e with
      | normal =>
        obtain ⟨m, hlt, hI'⟩ := hq
        obtain ⟨e₂, a₂, w₂, hq₂, harr₂⟩ := ih m hlt μ' κ' s' a₁ w₁ hI' R'
        exact ⟨e₂, a₂, w₂, hq₂, .of_steps (Steps.trans harr (.one step_inLoop)) harr₂⟩
      | exit id => exact ⟨_, a₁, w₁, ⟨μ', κ', s', R', hq⟩, .pass (x := .inLoop c) rfl (fun _ _ => .inl (by simp)) harr⟩
      | goto l => exact ⟨_, a₁, w₁, ⟨μ', κ', s', R', hq⟩, .pass (x := .inLoop c) rfl (fun _ _ => .inl (by simp)) harr⟩
      | ret => exact ⟨_, a₁, w₁, ⟨μ', κ', s', R', hq⟩, .pass (x := .inLoop c) rfl (fun _ _ => .inl (by simp)) harr⟩
      | panic ch => exact ⟨_, a₁, w₁, ⟨μ', κ', s', R', hq⟩, .pass (x := .inLoop c) rfl (fun _ _ => .inl (by simp)) harr⟩
      | outgrown => exact ⟨_, a₁, w₁, ⟨μ', κ', s', R', hq⟩, .pass (x := .inLoop c) rfl (fun _ _ => .inl (by simp)) harr⟩
  obtain ⟨e, a', w', hq, harr⟩ := key n μ κ s a w h0 R
  exact ⟨e, a', w', hq, .of_steps (.one step_loop) harr⟩

end

end Go.Ideal
