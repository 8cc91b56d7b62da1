/- Contracts out of contracts: own lists as results, lists that may be nil. -/
import Derived.Test.YtiadicmnbjaknaaB2
import Derived.Test.YtiadicmnbjaknaaCc
set_option linter.unusedVariables false
set_option linter.unusedSimpArgs false
set_option maxHeartbeats 1600000
set_option maxRecDepth 100000
namespace Go.Proofs.Ytiadicmnbjaknaa
open Go Go.Ideal Go.Pl

theorem icallF_ref {f : Nat} {args : List IV} {k ty n : Nat} {es : List IV} (h : HCall Try.prog f args [] (.ref 0 0 n true) (sm [(0, .arr k ty es)])) (hn : n = es.length) (hs : noSlL es = true) : ICallF Try.prog f args (.sl k es) := by
  refine icallF_of_hcall (fun i => i + 1) h ?_ rfl rfl (by simp [flatBs, hs])
  simp only [sm]
  exact ⟨⟨⟨_, _, rfl, by omega, by rw [hn, List.drop_zero, List.take_length], by simp [lkH]⟩, trivial⟩, trivial, List.nodup_nil⟩

theorem noSl_encQs : ∀ l : List Qd, noSlL (encQs l) = true
  | [] => rfl
  | p :: l => by show noSlL (encQ p :: encQs l) = true; rw [noSlL, noSl_encQs l]; rfl
theorem noSl_encTs : ∀ l : List Tr, noSlL (encTs l) = true
  | [] => rfl
  | p :: l => by show noSlL (encT p :: encTs l) = true; rw [noSlL, noSl_encTs l]; rfl
theorem icallF_ref' {f : Nat} {args : List IV} {k ty n : Nat} {es : List IV} (h : HCall Try.prog f args [] (.ref 0 0 n false) (sm [(0, .arr k ty es)])) (hn : n = es.length) (hs : noSlL es = true) : ICallF Try.prog f args (.sl k es) := by
  refine icallF_of_hcall (fun i => i + 1) h ?_ rfl rfl (by simp [flatBs, hs])
  simp only [sm]
  exact ⟨⟨⟨_, _, rfl, by omega, by rw [hn, List.drop_zero, List.take_length], by simp [lkH]⟩, trivial⟩, trivial, List.nodup_nil⟩
theorem icallF_nil {f : Nat} {args : List IV} {k : Nat} (h : ICall Try.prog f args (.sl k [])) : ICallF Try.prog f args (.sl k []) := by
  intro A w vs hA hR
  refine (h A w vs hA hR).mono ?_
  rintro e w' ⟨x, h1, h2, h3⟩
  refine ⟨x, h1, h2, ?_⟩
  simp only [RepV] at h3 ⊢
  obtain ⟨a, n, cp, q1, q2, q3, q4, q5, q6, q7⟩ := h3
  exact ⟨a, n, cp, q1, q2, q3, q4, q5, q6, fun h0 => by simp at q2; omega⟩
/-- One contract for a list that may be nil and one that is one's own. -/
def hs_or (a b : HSpec) (sel : List IV → Bool) : HSpec := ⟨a.mask, fun xs hp => bif sel xs then a.pre xs hp else b.pre xs hp, fun xs hp => bif sel xs then a.val xs hp else b.val xs hp, fun xs hp => bif sel xs then a.hval xs hp else b.hval xs hp⟩
def sel_sl : List IV → Bool
  | .sl _ _ :: _ => true
  | _ => false
theorem hk_or {f : Nat} {a b : HSpec} {sel : List IV → Bool} (ha : ∀ args hp, a.pre args hp → HCall Try.prog f args (sm hp) (a.val args hp) (sm (a.hval args hp))) (hb : ∀ args hp, b.pre args hp → HCall Try.prog f args (sm hp) (b.val args hp) (sm (b.hval args hp))) :
    ∀ args hp, (hs_or a b sel).pre args hp → HCall Try.prog f args (sm hp) ((hs_or a b sel).val args hp) (sm ((hs_or a b sel).hval args hp)) := by
  intro args hp h
  unfold hs_or at h ⊢
  simp only at h ⊢
  cases hs : sel args with
  | true => simp only [hs, cond_true] at h ⊢; exact ha args hp h
  | false => simp only [hs, cond_false] at h ⊢; exact hb args hp h

end Go.Proofs.Ytiadicmnbjaknaa
