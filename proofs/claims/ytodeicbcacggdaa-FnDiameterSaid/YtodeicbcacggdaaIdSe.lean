/- Heap calls as steps; regions in the text's order with them. -/
import Derived.Test.YtodeicbcacggdaaIdSd
set_option linter.unusedVariables false
set_option linter.unusedSimpArgs false
namespace Go.Ideal
open Go

section
variable {P : Program} {T : Nat → TD} {G : List (Nat × PSpec)} {H : List (Nat × HSpec)} {F : Fr} {μ κ : Nat → Nat} {s : ISt} {a : Act} {w : World} {ops : List Oper} {o : Oper}

theorem effH_sound (hH : HOK P H) {sp : HSpec} {fx : Operand} {args : Array Operand} {tys : Array TypeId} (ho : o.op = .call { callee := .value fx, args := args, argTypes := tys })
    (hl : lkHS H (callFn s.tm fx) = some sp) (hob : (effH sp F.N ops o fx args.toList s).ob) : StepOK P F ops o s (effH sp F.N ops o fx args.toList s) := by
  intro μ κ a w R Q next hn
  unfold effH at hob hn
  cases hG : (gval s.tm ops o).1 with
  | false =>
    rw [hG] at hob hn
    simp only [cond_false, skipE] at hob hn
    rw [gval_wanted R hob.1, hG]
    simp only [Bool.false_eq_true, if_false]
    exact hn μ κ _ _ (app_set R (by simp [RepV]) hob.2 _)
  | true =>
    rw [hG] at hob hn
    simp only [cond_true] at hob hn
    obtain ⟨hg, hd, hb, ⟨f, caps, hfx⟩, hob⟩ := hob
    rw [gval_wanted R hg, hG]
    simp only [if_true]
    refine .inl ?_
    have hfxr := gO_rep R (allB_mem hb fx (by simp))
    rw [hfx] at hfxr
    simp only [RepV] at hfxr
    obtain ⟨cs, hfv, hcaps⟩ := hfxr
    have hfn : callFn s.tm fx = f := by simp [callFn, hfx]
    have has : callArgs s.tm fx args.toList = args.toList.map (gO s.tm) ++ caps := by simp [callArgs, hfx]
    obtain ⟨hcall, hent⟩ := hH f sp (lkHS_mem (hfn ▸ hl))
    have hargs : RepL (ctx F μ κ s.hp w) (callArgs s.tm fx args.toList) (args.toList.map a.eval ++ cs) := by
      rw [has]
      exact (RepL_map (fun y hy => gO_rep R (allB_mem hb y (by simp [hy])))).append hcaps
    unfold Oper.wp
    rw [run_invoke_clo hent ho hfv w, Oper.upon_enter]
    refine (hcall_step (o := o) R hcall hargs (renL_length _) hob).mono ?_
    rintro e w' ⟨x, μN, κN, rfl, RN, hv⟩
    refine hn μN κN _ _ ?_
    unfold mkHC1 at RN
    unfold mkHC1 at hv
    unfold mkHC0 mkHC1
    simp only at RN hv ⊢
    unfold dstOK at hd
    unfold ISt.app setD
    cases hdst : o.dst with
    | none => simpa [hdst] using RN.putNone x
    | some d =>
      rw [hdst] at hd
      simp only [hdst] at RN hv ⊢
      refine RN.put ?_ hd
      unfold wrapG
      cases o.guard with
      | none => exact hv
      | some p => simp only [RepV]; exact ⟨fun _ => hv, fun h => (by cases h)⟩

/-- One operation in the text's order: as before, and calls that hand blocks over. -/
def effOp2 (T : Nat → TD) (G : List (Nat × PSpec)) (H : List (Nat × HSpec)) (N : Nat) (ops : List Oper) (o : Oper) (s : ISt) : Eff :=
  match o.op with
  | .call { callee := .value fx, args := args, .. } =>
    match lkHS H (callFn s.tm fx) with
    | some sp => effH sp N ops o fx args.toList s
    | none => effOp T G N ops o s
  | _ => effOp T G N ops o s

theorem effOp2_sound (hT : TOK P T) (hG : GOK P G) (hH : HOK P H) (hob : (effOp2 T G H F.N ops o s).ob) : StepOK P F ops o s (effOp2 T G H F.N ops o s) := by
  unfold effOp2 at hob ⊢
  split at hob
  · rename_i fx args tys ho
    cases hl : lkHS H (callFn s.tm fx) with
    | none => simp only [hl] at hob ⊢; exact effOp_sound hT hG hob
    | some sp => simp only [hl] at hob ⊢; exact effH_sound hH ho hl hob
  · exact effOp_sound hT hG hob

def vcOps2 (T : Nat → TD) (G : List (Nat × PSpec)) (H : List (Nat × HSpec)) (N : Nat) (ops : List Oper) : List Oper → ISt → (ISt → Prop) → Prop
  | [], s, K => K s
  | o :: l, s, K => (effOp2 T G H N ops o s).ob ∧ vcOps2 T G H N ops l (s.app (effOp2 T G H N ops o s)) K

theorem wpList_vc2 (hT : TOK P T) (hG : GOK P G) (hH : HOK P H) {ops : List Oper} {Q : Exit → Act → World → Prop} {K : ISt → Prop} (hK : ∀ s μ κ a w, RepS F μ κ s a w → K s → Q .normal a w) :
    ∀ (l : List Oper) (s : ISt), vcOps2 T G H F.N ops l s K → ∀ μ κ a w, RepS F μ κ s a w → wpList P ⟨ops⟩ Q l a w
  | [], s, h, μ, κ, a, w, R => hK s μ κ a w R h
  | o :: l, s, h, μ, κ, a, w, R => by
    simp only [vcOps2] at h
    unfold wpList
    exact effOp2_sound hT hG hH h.1 μ κ a w R Q _ (fun μ' κ' a' w' R' => wpList_vc2 hT hG hH hK l _ h.2 μ' κ' a' w' R')

theorem iwp_region2 (hT : TOK P T) (hG : GOK P G) (hH : HOK P H) {id : Nat} {ops : Array Oper} {s : ISt} {Q : Exit → ISt → Prop} (h : vcOps2 T G H F.N ops.toList ops.toList s (Q .normal)) : IWp P F (.region id ops false) s Q := by
  intro μ κ a w R
  refine wp_region_list ?_
  have : ops = ⟨ops.toList⟩ := by simp
  rw [this]
  exact wpList_vc2 hT hG hH (fun s' μ' κ' a' w' R' hK => ⟨μ', κ', s', R', hK⟩) _ _ h μ κ a w R

end
end Go.Ideal
